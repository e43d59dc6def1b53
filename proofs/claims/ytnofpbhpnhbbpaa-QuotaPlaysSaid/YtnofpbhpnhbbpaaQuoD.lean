/- Contracts of New, Now, Copy, Clients, Left. -/
import Derived.Test.YtnofpbhpnhbbpaaQuoI
import Derived.Test.YtnofpbhpnhbbpaaOnly
namespace Go.Proofs.Ytnofpbhpnhbbpaa
set_option linter.unusedVariables false
open Go.RowKit Go.Maps Go.Sort

set_option maxHeartbeats 1000000 in
set_option maxRecDepth 100000 in
theorem now_any (g b n : Nat) (r : Rl) (now : Nat) (m : List (List UInt8 × Acc)) (w : World) (h : Qb w g b n r now m) :
    Calls Try.prog 11 #[.pointer (some ⟨g, 0, none⟩)] w fun e w' => e = .returned (.int .u64 (now : Int)) ∧ w = w' := by
  have HN := Lib.hid (none_at g r now b w h.bk)
  obtain ⟨c0, c1, c2, c3, c4⟩ := h.bk.cells
  clear h
  go_enter Try.func11, Try.ntmps11
  go_wp2_with (go_at_call 27; refine HN.out.mono ?_; rintro e w' ⟨rfl, rfl⟩)
  go_ret
  exact ⟨rfl, rfl⟩
set_option maxHeartbeats 1000000 in
theorem now_nil (w : World) : Calls Try.prog 11 #[.pointer none] w fun e w' => e = .returned (.int .u64 0) ∧ w = w' := by
  go_enter Try.func11, Try.ntmps11
  go_wp2_with (go_at_call 27; refine (none_nil _).mono ?_; rintro e w' ⟨rfl, rfl⟩)
  go_ret
  exact ⟨rfl, rfl⟩
def clients (P now : Nat) (m : List (List UInt8 × Acc)) : List (List UInt8) := (mkeys (tidyM P now m)).mergeSort leB
set_option maxHeartbeats 1000000 in
set_option maxRecDepth 100000 in
theorem clients_any (g b n : Nat) (r : Rl) (now : Nat) (m : List (List UInt8 × Acc)) (hr : RlOk r) (ht : now ≤ 9223372036854775808) (hn : m.length ≤ 1000000) (w : World) (h : Qb w g b n r now m) :
    Calls Try.prog 10 #[.pointer (some ⟨g, 0, none⟩)] w fun e w' => ∃ v, e = .returned v ∧ Reads w' v ((clients r.P now m).map encStr) ∧ Qb w' g b n r now (tidyM r.P now m) ∧ Only (fun i => i = g ∨ i = b) w w' := by
  have hne := h.ne
  have HN := Lib.hid (none_at g r now b w h.bk)
  have HT := Lib.hid (tidy_any g b n r now m hr ht w h)
  have hl : (tidyM r.P now m).length ≤ 1000000 := Nat.le_trans (List.length_filter_le _ _) hn
  clear h
  go_enter Try.func10, Try.ntmps10
  go_wp2_with (go_at_call 27; refine HN.out.mono ?_; rintro e w' ⟨rfl, rfl⟩)
  refine HT.out.mono ?_
  rintro e w1 ⟨rfl, h1, hg1⟩
  have HS := Lib.hid (sorted_any b n (tidyM r.P now m) w1 h1.mp hl)
  have hk := keys_any (some b) w1
  obtain ⟨c0, c1, c2, c3, c4⟩ := h1.bk.cells
  have H1 := Lib.hid h1
  have HK := Lib.hid hk
  have HG := Lib.hid hg1
  clear h1 HT HN hk hg1
  go_wp2_with fail
  refine HK.out.mono ?_
  rintro e w2 ⟨rfl, rfl⟩
  go_wp2_with fail
  refine HS.out.mono ?_
  rintro e w3 ⟨v, rfl, hv, hb3⟩
  have HV := Lib.hid hv
  have HB := Lib.hid hb3
  clear hv hb3
  go_wp2_with fail
  go_ret
  exact ⟨v, rfl, HV.out, H1.out.below HB.out, (Only.of_grown (S := fun i => i = g ∨ i = b) HG.out (.inr rfl)).trans (Only.of_below HB.out (fun _ => False)) (fun _ h => h.elim)⟩
set_option maxHeartbeats 1000000 in
theorem clients_nil (w : World) : Calls Try.prog 10 #[.pointer none] w fun e w' => e = .returned (.slice none 0 0) ∧ w = w' := by
  go_enter Try.func10, Try.ntmps10
  go_wp2_with (go_at_call 27; refine (none_nil _).mono ?_; rintro e w' ⟨rfl, rfl⟩)
  go_ret
  exact ⟨rfl, rfl⟩
set_option maxHeartbeats 1000000 in
set_option maxRecDepth 100000 in
theorem copy_any (g b n : Nat) (r : Rl) (now : Nat) (m : List (List UInt8 × Acc)) (w : World) (h : Qb w g b n r now m) :
    Calls Try.prog 15 #[.pointer (some ⟨g, 0, none⟩)] w fun e w' => ∃ g' b', e = .returned (.pointer (some ⟨g', 0, none⟩)) ∧ Qb w' g' b' n r now m ∧ w.heap.size ≤ g' ∧ w.heap.size ≤ b' ∧ Below w.heap.size w w' := by
  have HN := Lib.hid (none_at g r now b w h.bk)
  have hd : Qb w.drew g b n r now m := h.below (Below.refl w.heap.size w).drew
  have HC := Lib.hid (clone_any b n m w.drew hd.mp)
  obtain ⟨c0, c1, c2, c3, c4⟩ := h.bk.cells
  have H := Lib.hid hd.bk
  have hg := hd.bk.lt
  have hbl := hd.mp.lt
  clear h hd
  go_enter Try.func15, Try.ntmps15
  go_wp2_with (go_at_call 27; refine HN.out.mono ?_; rintro e w' ⟨rfl, rfl⟩)
  go_wp2_with fail
  go_region_held3 (fun w' => w'.cell? ⟨g, 0, none⟩ = some (.int .u64 (r.P : Int)) ∧ w'.cell? ⟨g, 1, none⟩ = some (.int .i64 (r.C : Int)) ∧ w'.cell? ⟨g, 2, none⟩ = some (.int .i64 (r.B : Int)) ∧ w'.cell? ⟨g, 3, none⟩ = some (.int .u64 (now : Int)) ∧ w'.cell? ⟨g, 4, none⟩ = some (.map (some b))) (go_keep) (first
    | (go_at_call 31; refine HC.out.mono ?_; rintro e w1 ⟨rfl, m1, b1⟩; obtain ⟨k0, k1, k2, k3, k4⟩ := BkC.cells (Blk.below H.out b1 hg); have hz : w.heap.size ≤ w.drew.heap.size := Nat.le_refl _; have b2 := (Below.refl w.heap.size w).drew.trans b1; clear b1; generalize w.drew.heap.size = z at m1 hz))
  all_goals
    have B2 := Lib.hid b2
    have M1 := Lib.hid m1
    clear b2 m1 k0 k1 k2 k3 k4 c0 c1 c2 c3 c4 HC HN H
    go_wp2_with fail
    go_ret
    exact ⟨w1.heap.size, z, rfl, ⟨Blk.new w1 _ _, M1.out.kept (row := none) (World.grownBy_alloc _ _ none) (by simp)⟩, B2.out.size, hz, B2.out.alloc B2.out.size _⟩
set_option maxHeartbeats 1000000 in
theorem copy_nil (w : World) : Calls Try.prog 15 #[.pointer none] w fun e w' => e = .returned (.pointer none) ∧ w = w' := by
  go_enter Try.func15, Try.ntmps15
  go_wp2_with (go_at_call 27; refine (none_nil _).mono ?_; rintro e w' ⟨rfl, rfl⟩)
  go_ret
  exact ⟨rfl, rfl⟩
/-- What a rule is. -/
def ruleB (p c d : Int) : Bool := decide (1 ≤ p) && decide (p ≤ 4294967296) && decide (0 ≤ c) && decide (c ≤ 1073741824) && decide (0 ≤ d) && decide (d ≤ 1073741824)
set_option maxHeartbeats 1000000 in
set_option maxRecDepth 100000 in
theorem new_bad (p c d : Int) (h : ruleB p c d = false) (w : World) :
    Calls Try.prog 8 #[.agg #[.int .u64 p, .int .i64 c, .int .i64 d]] w fun e w' => e = .returned (.tuple #[.pointer none, .int .i64 2]) ∧ Below w.heap.size w w' := by
  have H : Hid (¬ (1 ≤ p ∧ p ≤ 4294967296 ∧ 0 ≤ c ∧ c ≤ 1073741824 ∧ 0 ≤ d ∧ d ≤ 1073741824)) := by
    rintro ⟨h1, h2, h3, h4, h5, h6⟩
    unfold ruleB at h
    simp [h1, h2, h3, h4, h5, h6] at h
  clear h
  have hmm := @run_makeMap Try.prog
  go_enter Try.func8, Try.ntmps8
  go_wp2_with fail
  all_goals first
    | (exfalso; exact H.out ⟨by omega, by omega, by omega, by omega, by omega, by omega⟩)
    | (go_ret2; exact ⟨rfl, (Below.refl _ _).alloc (Nat.le_refl _) _⟩)
set_option maxHeartbeats 1000000 in
set_option maxRecDepth 100000 in
theorem new_ok (r : Rl) (hr : RlOk r) (w : World) :
    Calls Try.prog 8 #[.agg #[.int .u64 (r.P : Int), .int .i64 (r.C : Int), .int .i64 (r.B : Int)]] w fun e w' => ∃ g b, e = .returned (.tuple #[.pointer (some ⟨g, 0, none⟩), .int .i64 0]) ∧ Qb w' g b 0 r 0 [] ∧ w.heap.size ≤ g ∧ w.heap.size ≤ b ∧ Below w.heap.size w w' := by
  have h1 := hr.P
  have h2 := hr.P2
  have h3 := hr.C
  have h4 := hr.B
  have i1 : (1 : Int) ≤ (r.P : Int) := by omega
  have i2 : (r.P : Int) ≤ 4294967296 := by omega
  have i3 : (0 : Int) ≤ (r.C : Int) := by omega
  have i4 : (r.C : Int) ≤ 1073741824 := by omega
  have i5 : (0 : Int) ≤ (r.B : Int) := by omega
  have i6 : (r.B : Int) ≤ 1073741824 := by omega
  clear hr
  have hmm := @run_makeMap Try.prog
  go_enter Try.func8, Try.ntmps8
  go_wp2_with fail
  go_ret2
  refine ⟨w.heap.size + 1 + 1, w.heap.size + 1, rfl, ⟨?_, ?_⟩, by omega, by omega, ?_⟩
  · have h := Blk.new ((w.alloc (.cells #[.int .u64 (r.P : Int), .int .i64 (r.C : Int), .int .i64 (r.B : Int)] 30)).alloc (.map #[] 0)) 61 #[.int .u64 (r.P : Int), .int .i64 (r.C : Int), .int .i64 (r.B : Int), .int .u64 0, .map (some (w.heap.size + 1))]
    simpa [BkC] using h
  · have h := (World.mapv.made (val := accV) (w.alloc (.cells #[.int .u64 (r.P : Int), .int .i64 (r.C : Int), .int .i64 (r.B : Int)] 30)) Try.prog 9 AccOk).kept (row := none) (World.grownBy_alloc _ (.cells #[.int .u64 (r.P : Int), .int .i64 (r.C : Int), .int .i64 (r.B : Int), .int .u64 0, .map (some (w.heap.size + 1))] 61) _) (by simp)
    simpa using h
  · exact (((Below.refl _ _).alloc (Nat.le_refl _) _).alloc (by simp) _).alloc (by simp; omega) _
end Go.Proofs.Ytnofpbhpnhbbpaa
