/- The laws KeyNames, KeySegments, KeyTexts, KeyParses: each returns true. -/
import Derived.Test.YtbcfbdkacnnkgaaDoorKeyH
namespace Go.Proofs.YtbcfbdkacnnkgaaDoor
set_option linter.unusedVariables false
open Go.RowKit

set_option maxHeartbeats 4000000 in
set_option maxRecDepth 100000 in
theorem names_walk (a b : ByteArray) (ha : a.size ≤ 140737488355328) (hb : b.size ≤ 140737488355328) (w : World) (hL : LaidK w) :
    Calls Tryd.prog 3 #[.string a, .string b] w fun e w' => e = .returned (.bool true) ∧ Below w.heap.size w w' := by
  by_cases h1 : a.size ≤ 600 ∧ b.size ≤ 600
  · obtain ⟨h1, h2⟩ := h1
    go_enter Tryd.func3, Tryd.ntmps3
    go_wp2_with (first
      | (go_at_call 11; refine (keyValid_any _ _).mono ?_; rintro e w' ⟨rfl, rfl⟩)
      | (go_at_call 12; refine (refValid_any _ _).mono ?_; rintro e w' ⟨rfl, rfl⟩)
      | (go_at_call 13; refine (keyValidTag_any _ _).mono ?_; rintro e w' ⟨rfl, rfl⟩)
      | (go_at_call 14; refine (refValidTag_any _ _).mono ?_; rintro e w' ⟨rfl, rfl⟩)
      | (go_at_call 15; refine (keyValidPrefix_any _ _).mono ?_; rintro e w' ⟨rfl, rfl⟩)
      | (go_at_call 16; refine (refValidPrefix_any _ _).mono ?_; rintro e w' ⟨rfl, rfl⟩)
      | (go_at_call 17; refine (keyHas_any _ _ _).mono ?_; rintro e w' ⟨rfl, rfl⟩)
      | (go_at_call 18; refine (refHas_any _ _ _).mono ?_; rintro e w' ⟨rfl, rfl⟩))
    refine (keyCommon_any a b ha hb _).mono ?_
    rintro e w1 ⟨rfl, b1⟩
    go_wp2_with fail
    refine (refCommon_any a b ha hb _).mono ?_
    rintro e w2 ⟨rfl, b2⟩
    have b3 := b1.trans (b2.mono b1.size)
    clear b1 b2
    go_wp2_with fail
    refine (known_any _ (hL.below b3)).mono ?_
    rintro e w3 ⟨rfl, b4⟩
    have b5 := b3.trans (b4.mono b3.size)
    clear b3 b4
    go_wp2_with fail
    go_ret
    exact ⟨by simp, b5⟩
  · have h2 : (600 < a.size) ∨ (a.size ≤ 600 ∧ 600 < b.size) := by omega
    rcases h2 with h2 | ⟨h2, h3⟩
    all_goals
      clear h1
      go_enter Tryd.func3, Tryd.ntmps3
      go_wp2_with (go_at_call 10; refine (known_any _ hL).mono ?_; rintro e w' ⟨rfl, hb1⟩)
      go_ret
      exact ⟨rfl, hb1⟩

theorem kSegs_bd (s : Bs) : (kSegs s).length ≤ s.length + 1 := by
  rw [kSegs_length]
  have := List.count_le_length (a := 47) (l := s)
  omega

theorem seg_yes (s : ByteArray) (hs : s.size ≤ 600) (hv : kValid s.size = true) (w : World) (hL : Laid w) :
    Calls Tryd.prog 21 #[.string s] w fun e w' => ∃ v, e = .returned (.tuple #[v, .int .i64 0]) ∧ Reads w' v ((kSegs s.data.toList).map encStr) ∧ Below w.heap.size w w' := by
  refine (keySegments_any s (by omega) w hL).mono ?_
  rintro e w' ⟨v, rfl, ho, hb⟩
  have hr : kSegsR s.data.toList = (kSegs s.data.toList, 0) := by simp [kSegsR, hv]
  have hbd := kSegs_bd s.data.toList
  have hsz : s.data.toList.length = s.size := by simp
  rw [hr] at ho ⊢
  exact ⟨v, rfl, own_reads ho rfl (by omega), hb⟩
theorem seg_no (s : ByteArray) (hs : s.size ≤ 600) (hv : kValid s.size = false) (w : World) (hL : Laid w) :
    Calls Tryd.prog 21 #[.string s] w fun e w' => ∃ v, e = .returned (.tuple #[v, .int .i64 2]) ∧ Reads w' v (([] : List Bs).map encStr) ∧ Below w.heap.size w w' := by
  refine (keySegments_any s (by omega) w hL).mono ?_
  rintro e w' ⟨v, rfl, ho, hb⟩
  have hr : kSegsR s.data.toList = ([], 2) := by simp [kSegsR, hv]
  rw [hr] at ho ⊢
  exact ⟨v, rfl, own_reads ho rfl (by decide), hb⟩
theorem fold_yes (s : ByteArray) (hs : s.size ≤ 600) (hv : kValid s.size = true) (w : World) :
    Calls Tryd.prog 22 #[.string s] w fun e w' => ∃ v, e = .returned (.tuple #[v, .int .i64 0]) ∧ Reads w' v ((kFolders s.data.toList).map encStr) ∧ Below w.heap.size w w' := by
  refine (keyFolders_any s (by omega) w).mono ?_
  rintro e w' ⟨v, rfl, ho, hb⟩
  have hr : kFoldsR s.data.toList = (kFolders s.data.toList, 0) := by simp [kFoldsR, hv]
  have hbd := kFold_length s.data.toList s.data.toList.length
  have hsz : s.data.toList.length = s.size := by simp
  rw [hr] at ho ⊢
  exact ⟨v, rfl, own_reads ho rfl (by unfold kFolders; omega), hb⟩
theorem fold_no (s : ByteArray) (hs : s.size ≤ 600) (hv : kValid s.size = false) (w : World) :
    Calls Tryd.prog 22 #[.string s] w fun e w' => ∃ v, e = .returned (.tuple #[v, .int .i64 2]) ∧ Reads w' v (([] : List Bs).map encStr) ∧ Below w.heap.size w w' := by
  refine (keyFolders_any s (by omega) w).mono ?_
  rintro e w' ⟨v, rfl, ho, hb⟩
  have hr : kFoldsR s.data.toList = ([], 2) := by simp [kFoldsR, hv]
  rw [hr] at ho ⊢
  exact ⟨v, rfl, own_reads ho rfl (by decide), hb⟩
theorem refseg_reads (s : ByteArray) (hs : s.size ≤ 600) (w : World) :
    Calls Tryd.prog 24 #[.string s] w fun e w' => ∃ v, e = .returned v ∧ Reads w' v ((kSegs s.data.toList).map encStr) ∧ Below w.heap.size w w' := by
  refine (refSegments_any s (by omega) w).mono ?_
  rintro e w' ⟨v, rfl, ho, hb⟩
  have hbd := kSegs_bd s.data.toList
  have hsz : s.data.toList.length = s.size := by simp
  exact ⟨v, rfl, own_reads ho rfl (by omega), hb⟩
theorem reffold_reads (s : ByteArray) (hs : s.size ≤ 600) (w : World) :
    Calls Tryd.prog 25 #[.string s] w fun e w' => ∃ v, e = .returned v ∧ Reads w' v ((kFolders s.data.toList).map encStr) ∧ Below w.heap.size w w' := by
  refine (refFolders_any s (by omega) w).mono ?_
  rintro e w' ⟨v, rfl, ho, hb⟩
  have hbd := kFold_length s.data.toList s.data.toList.length
  have hsz : s.data.toList.length = s.size := by simp
  exact ⟨v, rfl, own_reads ho rfl (by unfold kFolders; omega), hb⟩

set_option maxHeartbeats 4000000 in
set_option maxRecDepth 100000 in
theorem segments_walk (s : ByteArray) (hs : s.size ≤ 140737488355328) (w : World) (hL : LaidK w) :
    Calls Tryd.prog 4 #[.string s] w fun e w' => e = .returned (.bool true) ∧ Below w.heap.size w w' := by
  have hS := St.start hL
  by_cases h1 : s.size ≤ 600
  · rcases Bool.eq_false_or_eq_true (kValid s.size) with hv | hv
    · go_enter Tryd.func4, Tryd.ntmps4
      go_wp2_with fail
      refine (seg_yes s h1 hv _ hS.laid.laid).mono ?_
      rintro e w1 ⟨va, rfl, r1, b1⟩
      have s1 := (hS.step b1).push r1
      clear r1 b1 hS
      go_wp2_with fail
      refine (fold_yes s h1 hv _).mono ?_
      rintro e w2 ⟨vb, rfl, r1, b1⟩
      have s2 := (s1.step b1).push r1
      clear r1 b1 s1
      go_wp2_with fail
      refine (refValid_any _ _).mono ?_
      rintro e w' ⟨rfl, rfl⟩
      go_wp2_with fail
      refine (refseg_reads s h1 _).mono ?_
      rintro e w3 ⟨vc, rfl, r1, b1⟩
      have s3 := (s2.step b1).push r1
      clear r1 b1 s2
      go_wp2_with fail
      refine (kn_list _ va vc _ 0 (s3.reads _ (.tail _ (.tail _ (.head _)))) (s3.reads _ (.head _))).mono ?_
      rintro e w4 ⟨rfl, b1⟩
      have s4 := s3.step b1
      clear b1 s3
      go_wp2_with fail
      refine (reffold_reads s h1 _).mono ?_
      rintro e w5 ⟨vd, rfl, r1, b1⟩
      have s5 := (s4.step b1).push r1
      clear r1 b1 s4
      go_wp2_with fail
      refine (kn_list _ vb vd _ 0 (s5.reads _ (.tail _ (.tail _ (.head _)))) (s5.reads _ (.head _))).mono ?_
      rintro e w6 ⟨rfl, b1⟩
      have s6 := s5.step b1
      clear b1 s5
      go_wp2_with fail
      refine (known_any _ s6.laid).mono ?_
      rintro e w7 ⟨rfl, b1⟩
      have s7 := s6.step b1
      clear b1 s6
      go_wp2_with fail
      go_ret
      exact ⟨rfl, s7.bel⟩
    · go_enter Tryd.func4, Tryd.ntmps4
      go_wp2_with fail
      refine (seg_no s h1 hv _ hS.laid.laid).mono ?_
      rintro e w1 ⟨va, rfl, r1, b1⟩
      have s1 := (hS.step b1).push r1
      clear r1 b1 hS
      go_wp2_with fail
      refine (fold_no s h1 hv _).mono ?_
      rintro e w2 ⟨vb, rfl, r1, b1⟩
      have s2 := (s1.step b1).push r1
      clear r1 b1 s1
      go_wp2_with fail
      refine (refValid_any _ _).mono ?_
      rintro e w' ⟨rfl, rfl⟩
      go_wp2_with fail
      refine (kn_list4 _ va 2 (s2.reads _ (.tail _ (.head _)))).mono ?_
      rintro e w4 ⟨rfl, b1⟩
      have s4 := s2.step b1
      clear b1 s2
      go_wp2_with fail
      refine (kn_list4 _ vb 2 (s4.reads _ (.head _))).mono ?_
      rintro e w6 ⟨rfl, b1⟩
      have s6 := s4.step b1
      clear b1 s4
      go_wp2_with fail
      refine (known_any _ s6.laid).mono ?_
      rintro e w7 ⟨rfl, b1⟩
      have s7 := s6.step b1
      clear b1 s6
      go_wp2_with fail
      go_ret
      exact ⟨rfl, s7.bel⟩
  · have h2 : 600 < s.size := by omega
    clear h1
    go_enter Tryd.func4, Tryd.ntmps4
    go_wp2_with (go_at_call 10; refine (known_any _ hL).mono ?_; rintro e w' ⟨rfl, hb1⟩)
    go_ret
    exact ⟨rfl, hb1⟩

set_option maxHeartbeats 4000000 in
set_option maxRecDepth 100000 in
theorem texts_walk (s : ByteArray) (hs : s.size ≤ 140737488355328) (w : World) (hL : LaidK w) :
    Calls Tryd.prog 7 #[.string s] w fun e w' => e = .returned (.bool true) ∧ Below w.heap.size w w' := by
  have hS := St.start hL
  by_cases h1 : s.size ≤ 600
  · by_cases h2 : s.size ≤ 250
    · have ht : ∀ w, Digits w → Calls Tryd.prog 32 #[.string s] w fun e w' => e = .returned (.tuple #[.string ⟨(rText s.data.toList).toArray⟩, .int .i64 0]) ∧ Below w.heap.size w w' := fun w hD => by
        have h := keyText_any s (by omega) w hD
        rwa [kText_short _ (by simpa using h2)] at h
      have HT := Lib.hid ht
      clear ht
      go_enter Tryd.func7, Tryd.ntmps7
      go_wp2_with fail
      refine (HT.out _ hS.laid.digs).mono ?_
      rintro e w1 ⟨rfl, b1⟩
      have s1 := hS.step b1
      clear b1 hS
      go_wp2_with fail
      refine (refText_any s (by omega) _).mono ?_
      rintro e w2 ⟨rfl, b1⟩
      have s2 := s1.step b1
      clear b1 s1
      go_wp2_with fail
      refine (kn_one _ _ _).mono ?_
      rintro e w' ⟨rfl, rfl⟩
      go_wp2_with fail
      refine (known_any _ s2.laid).mono ?_
      rintro e w7 ⟨rfl, b1⟩
      have s7 := s2.step b1
      clear b1 s2
      go_wp2_with fail
      go_ret
      exact ⟨rfl, s7.bel⟩
    · have h3 : 250 < s.size := by omega
      have ht : ∀ w, Digits w → Calls Tryd.prog 32 #[.string s] w fun e w' => e = .returned (.tuple #[.string ⟨#[]⟩, .int .i64 5]) ∧ Below w.heap.size w w' := fun w hD => by
        have h := keyText_any s (by omega) w hD
        rwa [kText_long _ (by simpa using h3)] at h
      have HT := Lib.hid ht
      clear ht h2
      go_enter Tryd.func7, Tryd.ntmps7
      go_wp2_with fail
      refine (HT.out _ hS.laid.digs).mono ?_
      rintro e w1 ⟨rfl, b1⟩
      have s1 := hS.step b1
      clear b1 hS
      go_wp2_with fail
      refine (kn_one _ _ _).mono ?_
      rintro e w' ⟨rfl, rfl⟩
      go_wp2_with fail
      refine (known_any _ s1.laid).mono ?_
      rintro e w7 ⟨rfl, b1⟩
      have s7 := s1.step b1
      clear b1 s1
      go_wp2_with fail
      go_ret
      exact ⟨rfl, s7.bel⟩
  · have h2 : 600 < s.size := by omega
    clear h1
    go_enter Tryd.func7, Tryd.ntmps7
    go_wp2_with (go_at_call 10; refine (known_any _ hL).mono ?_; rintro e w' ⟨rfl, hb1⟩)
    go_ret
    exact ⟨rfl, hb1⟩

theorem parses_is (s t : ByteArray) (x : Bs) (b : Int) (hs : s.size ≤ 1000000) (ht : t = ⟨x.toArray⟩) (w : World) (hD : Digits w) (h : kParse s.data.toList = (x, b)) :
    Calls Tryd.prog 35 #[.string s, .string t, .int .i64 b] w fun e w' => e = .returned (.bool true) ∧ Below w.heap.size w w' := by
  subst ht
  have hp := parses_any s ⟨x.toArray⟩ b hs w hD
  rw [h] at hp
  have e1 : (⟨x.toArray⟩ : ByteArray).toList = x := mk_toList x
  rw [e1] at hp
  simpa using hp

set_option maxHeartbeats 4000000 in
set_option maxRecDepth 100000 in
theorem parses_walk (s : ByteArray) (hs : s.size ≤ 140737488355328) (w : World) (hL : LaidK w) :
    Calls Tryd.prog 8 #[.string s] w fun e w' => e = .returned (.bool true) ∧ Below w.heap.size w w' := by
  have hS := St.start hL
  by_cases h1 : s.size ≤ 1000
  · have hk := kParse_eq s.data.toList
    cases hr : rParse s.data.toList with
    | none =>
      rw [hr] at hk
      have ht : ∀ w, Calls Tryd.prog 34 #[.string s] w fun e w' => e = .returned (.tuple #[.string ⟨#[]⟩, .bool false]) ∧ Below w.heap.size w w' := fun w => by
        have h := refParse_any s (by omega) w
        rwa [hr] at h
      have HT := Lib.hid ht
      have HK := Lib.hid hk
      clear ht hk hr
      go_enter Tryd.func8, Tryd.ntmps8
      go_wp2_with fail
      refine (HT.out _).mono ?_
      rintro e w1 ⟨rfl, b1⟩
      have s1 := hS.step b1
      clear b1 hS
      go_wp2_with fail
      refine (parses_is s ⟨#[]⟩ [] 6 (by omega) rfl _ s1.laid.digs HK.out).mono ?_
      rintro e w2 ⟨rfl, b1⟩
      have s2 := s1.step b1
      clear b1 s1
      go_wp2_with fail
      refine (known_any _ s2.laid).mono ?_
      rintro e w7 ⟨rfl, b1⟩
      have s7 := s2.step b1
      clear b1 s2
      go_wp2_with fail
      go_ret
      exact ⟨rfl, s7.bel⟩
    | some x =>
      rw [hr] at hk
      have ht : ∀ w, Calls Tryd.prog 34 #[.string s] w fun e w' => e = .returned (.tuple #[.string ⟨x.toArray⟩, .bool true]) ∧ Below w.heap.size w w' := fun w => by
        have h := refParse_any s (by omega) w
        rwa [hr] at h
      have HT := Lib.hid ht
      have HK := Lib.hid hk
      clear ht hk hr
      go_enter Tryd.func8, Tryd.ntmps8
      go_wp2_with fail
      refine (HT.out _).mono ?_
      rintro e w1 ⟨rfl, b1⟩
      have s1 := hS.step b1
      clear b1 hS
      go_wp2_with fail
      refine (parses_is s ⟨x.toArray⟩ x 0 (by omega) rfl _ s1.laid.digs HK.out).mono ?_
      rintro e w2 ⟨rfl, b1⟩
      have s2 := s1.step b1
      clear b1 s1
      go_wp2_with fail
      refine (known_any _ s2.laid).mono ?_
      rintro e w7 ⟨rfl, b1⟩
      have s7 := s2.step b1
      clear b1 s2
      go_wp2_with fail
      go_ret
      exact ⟨rfl, s7.bel⟩
  · have h2 : 1000 < s.size := by omega
    clear h1
    go_enter Tryd.func8, Tryd.ntmps8
    go_wp2_with (go_at_call 10; refine (known_any _ hL).mono ?_; rintro e w' ⟨rfl, hb1⟩)
    go_ret
    exact ⟨rfl, hb1⟩
end Go.Proofs.YtbcfbdkacnnkgaaDoor
