/- The laws KeyJoins and KeyTags: each returns true. -/
import Derived.Test.YtbcfbdkacnnkgaaDoorKeyW
import Derived.Test.YtbcfbdkacnnkgaaDoorSlc
import Derived.Handy
import Derived.Outline
namespace Go.Proofs.YtbcfbdkacnnkgaaDoor
set_option linter.unusedVariables false
open Go.RowKit

/-- What a walk wants of a list of strings that came in: each cell, by its index. -/
def CellsOf (w : World) (p : Option Addr) (l : List Bs) : Prop :=
  ∀ i x, l[i]? = some x → ∃ blk off, p = some ⟨blk, off, none⟩ ∧ blk < w.heap.size ∧ w.cell? ⟨blk, off + i, none⟩ = some (.string ⟨x.toArray⟩)
theorem cellsOf_reads {w : World} {p : Option Addr} {l : List Bs} {n cap : Nat} (h : Reads w (.slice p n cap) (l.map encStr)) : n = l.length ∧ CellsOf w p l := by
  obtain ⟨q, c, e, _, h2⟩ := h
  injection e with e1 e2 e3
  subst e1 e2 e3
  refine ⟨by rw [List.length_map], fun i x hx => ?_⟩
  rcases h2 with h0 | ⟨blk, off, hp, hb, _, hc⟩
  · rw [List.length_map] at h0
    rw [List.eq_nil_of_length_eq_zero h0] at hx
    cases hx
  · exact ⟨blk, off, hp, hb, hc i _ (encStr_getElem l i x hx)⟩

theorem kTags_len (l : List Bs) : (kTags l).1.length ≤ l.length := by
  unfold kTags
  split
  · split
    · exact kUniq_length l
    · simp
  · simp

def lenSum (l : List Bs) : Nat := (l.map (·.length)).sum
theorem lenSum_snoc (l : List Bs) (k : Nat) (x : Bs) (h : l[k]? = some x) : lenSum (l.take (k + 1)) = lenSum (l.take k) + x.length := by
  rw [take_snoc l k x h]
  simp [lenSum]
theorem lenSum_bound (l : List Bs) (b : Nat) (h : ∀ x ∈ l, x.length ≤ b) : lenSum l ≤ l.length * b := by
  induction l with
  | nil => simp [lenSum]
  | cons x r ih =>
    have h1 := h x (List.mem_cons_self ..)
    have h2 := ih fun y hy => h y (List.mem_cons_of_mem _ hy)
    simp only [lenSum, List.map_cons, List.sum_cons, List.length_cons, Nat.add_mul] at h2 ⊢
    omega

set_option maxHeartbeats 4000000 in
set_option maxRecDepth 100000 in
theorem joins_walk (v : Value) (l : List Bs) (w : World) (hr : Reads w v (l.map encStr)) (hx : ∀ x ∈ l, x.length ≤ 140737488355328) (hL : LaidK w) :
    Calls Tryd.prog 5 #[v] w fun e w' => e = .returned (.bool true) ∧ Below w.heap.size w w' := by
  have hR := hr
  have hS := St.start hL
  obtain ⟨p, cap, rfl, hl2, _⟩ := hr
  obtain ⟨_, hC⟩ := cellsOf_reads hR
  rw [List.length_map] at hl2 hR ⊢
  have HC := Lib.hid hC
  have HX := Lib.hid hx
  clear hC hx
  go_enter Tryd.func5, Tryd.ntmps5
  go_wp2
  go_loop [3, 4] (fun n i => ∃ k : Nat, k ≤ l.length ∧ k ≤ 301 ∧ i = .int .i64 k ∧ n = .int .i64 (lenSum (l.take k) : Nat)) (fun _ i => 301 - (intOf i).toNat)
  case atStart => exact ⟨0, by omega, by omega, rfl, rfl⟩
  case round =>
    obtain ⟨k, hk, hk2, rfl, rfl⟩ := hrel
    have hb : lenSum (l.take k) ≤ 301 * 140737488355328 := by
      refine Nat.le_trans (lenSum_bound _ 140737488355328 fun x hx => HX.out x (List.mem_of_mem_take hx)) ?_
      rw [List.length_take]
      exact Nat.mul_le_mul_right _ (by omega)
    by_cases hlt : k < l.length ∧ k < 301
    · obtain ⟨h1, h2⟩ := hlt
      obtain ⟨x, hx⟩ : ∃ x, l[k]? = some x := ⟨l[k], List.getElem?_eq_getElem h1⟩
      obtain ⟨blk, off, rfl, HBLK, hcell⟩ := HC.out k x hx
      have hxl := HX.out x (List.mem_of_getElem? hx)
      have HS := Lib.hid (lenSum_snoc l k x hx)
      clear hx
      go_wp2
      go_round
      case rel => exact ⟨k + 1, by omega, by omega, by go_num, by rw [HS.out]; go_num⟩
      case measure => simp [intOf]; omega
    · have h3 : k = 301 ∨ (k = l.length ∧ k < 301) := by omega
      rcases h3 with rfl | ⟨rfl, h3⟩
      · have h4 : 300 < l.length := by omega
        clear hlt
        go_wp2_with (go_at_call 10; refine (known_any _ hL).mono ?_; rintro e w' ⟨rfl, hb1⟩)
        all_goals
          go_ret
          exact ⟨rfl, hb1⟩
      · rw [List.take_length] at hb ⊢
        clear hlt hk hk2
        by_cases h5 : l.length ≤ 300 ∧ lenSum l ≤ 600
        · obtain ⟨h5, h6⟩ := h5
          have hsum : (l.map (·.length)).sum ≤ 600 := h6
          have HSUM := Lib.hid hsum
          have HR := Lib.hid hR
          clear hsum hR
          go_wp2_with fail
          refine (keyJoin_any _ l _ HR.out (by have := HSUM.out; omega) (by omega)).mono ?_
          rintro e w1 ⟨rfl, b1⟩
          have r1 := Lib.hid (HR.out.below b1)
          have s1 := hS.step b1
          clear b1 hS
          go_wp2_with fail
          refine (refJoin_any _ l _ r1.out (by have := HSUM.out; omega) (by omega)).mono ?_
          rintro e w2 ⟨rfl, b1⟩
          have s2 := s1.step b1
          clear b1 s1
          go_wp2_with fail
          refine (kn_one _ _ _).mono ?_
          rintro e w' ⟨rfl, rfl⟩
          go_wp2_with fail
          refine (known_any _ s2.laid).mono ?_
          rintro e w7 ⟨rfl, b1⟩
          have s7 := s2.step b1
          clear b1 s2
          go_wp2_with fail
          go_ret
          exact ⟨rfl, s7.bel⟩
        · have h6 : l.length ≤ 300 := by omega
          have h7 : 600 < lenSum l := by omega
          clear h5
          go_wp2_with (go_at_call 10; refine (known_any _ hL).mono ?_; rintro e w' ⟨rfl, hb1⟩)
          go_ret
          exact ⟨rfl, hb1⟩

set_option maxHeartbeats 4000000 in
set_option maxRecDepth 100000 in
theorem tags_walk (v : Value) (l : List Bs) (w : World) (hr : Reads w v (l.map encStr)) (hx : ∀ x ∈ l, x.length ≤ 140737488355328) (hL : LaidK w) :
    Calls Tryd.prog 6 #[v] w fun e w' => e = .returned (.bool true) ∧ Below w.heap.size w w' := by
  have hR := hr
  have hS := St.start hL
  obtain ⟨p, cap, rfl, hl2, _⟩ := hr
  obtain ⟨_, hC⟩ := cellsOf_reads hR
  rw [List.length_map] at hl2 hR ⊢
  have HC := Lib.hid hC
  have HX := Lib.hid hx
  clear hC hx
  by_cases h60 : l.length ≤ 60
  · go_enter Tryd.func6, Tryd.ntmps6
    go_wp2
    go_loop [17] (fun i => ∃ k : Nat, k ≤ l.length ∧ i = .int .i64 k) (fun i => l.length - (intOf i).toNat)
    case atStart => exact ⟨0, by omega, rfl⟩
    case round =>
      obtain ⟨k, hk, rfl⟩ := hrel
      by_cases hlt : k < l.length
      · obtain ⟨x, hx⟩ : ∃ x, l[k]? = some x := ⟨l[k], List.getElem?_eq_getElem hlt⟩
        obtain ⟨blk, off, rfl, HBLK, hcell⟩ := HC.out k x hx
        clear hx
        by_cases hs : x.length ≤ 100
        · go_wp2
          go_round
          case rel => exact ⟨k + 1, by omega, by go_num⟩
          case measure => simp [intOf]; omega
        · have hs2 : 100 < x.length := by omega
          clear hs
          go_wp2_with (go_at_call 10; refine (known_any _ hL).mono ?_; rintro e w' ⟨rfl, hb1⟩)
          go_ret
          exact ⟨rfl, hb1⟩
      · obtain rfl : k = l.length := by omega
        clear hlt hk
        obtain ⟨i0, hi, hz0, hz1, hz2⟩ := info_parts tags_info
        have HR := Lib.hid hR
        clear hR
        go_wp2_with (at_builtin; refine wpList_append_reads _ rfl _ _ 26 rfl w.heap.size 9 i0 (.string ⟨#[]⟩) 16 Tryd.underlying26 hi hz0 hz1 hz2 rfl _ _ _ rfl (World.ownsRow_nil _ _ _ _) _ (l.map encStr) rfl HR.out (one_strings l) (by rw [List.length_map]; unfold maxLen; omega) (by rw [List.length_map]; omega) (Nat.le_refl _) ?_; intro v1 w1 hown1 hg1 hat1)
        rw [List.length_map, Nat.zero_add, List.nil_append] at hown1
        have b1 : Below w.heap.size w w1 := (Below.refl _ _).grown hg1 (Nat.le_refl _) (fun j hj => by cases hj)
        have ro : Reads w1 v1 (l.map encStr) := Reads.of_own (base := w.heap.size) (e := 9) (by rw [List.length_map]; exact hown1) (by rw [List.length_map]; omega)
        have s1 := ((hS.step b1).push (HR.out.below b1)).push ro
        clear b1 ro hown1 hg1 hat1 hS
        have htl := kTags_len l
        go_wp2_with fail
        refine (keyTags_any v1 l _ (s1.reads _ (.head _)) (by omega)).mono ?_
        rintro e w2 ⟨vg, rfl, hown2, b12⟩
        go_wp2_with fail
        refine (refTags_any _ l _ ((s1.step b12).reads _ (.tail _ (.head _))) (by omega)).mono ?_
        rintro e w3 ⟨vw, rfl, hown3, b1⟩
        have b13 := b12.trans (b1.mono b12.size)
        have hown3' := ownsRow_below hown2 b1
        clear b1 b12 hown2
        go_wp2_with fail
        refine (kn_list _ vg vw _ _ (Reads.of_own (base := w1.heap.size) (e := 9) (by rw [List.length_map]; exact hown3') (by rw [List.length_map]; omega)) (Reads.of_own (base := w2.heap.size) (e := 9) (by rw [List.length_map]; exact hown3) (by rw [List.length_map]; omega))).mono ?_
        rintro e w4 ⟨rfl, b1⟩
        have b14 := b13.trans (b1.mono b13.size)
        have hown4 := ownsRow_below hown3' b1
        clear b1 b13 hown3 hown3'
        go_wp2_with fail
        have s4 := s1.step b14
        refine (refSame_any v1 _ l l _ (s4.reads _ (.head _)) (s4.reads _ (.tail _ (.head _)))).mono ?_
        rintro e w5 ⟨rfl, b1⟩
        have b15 := b14.trans (b1.mono b14.size)
        have hown5 := ownsRow_below hown4 b1
        clear b1 b14 hown4 s4
        rw [show decide (l = l) = true from by simp]
        have hx0 : ∃ xs : List Value, w5.ownsRow w1.heap.size 9 1 vg (kTags l).1.length xs := ⟨_, hown5⟩
        clear hown5
        revert hx0 htl
        generalize (kTags l).1.length = N
        intro htl hx0
        obtain ⟨xs0, hx0⟩ := hx0
        obtain ⟨pg, cg, rfl⟩ : ∃ pg cg, vg = .slice pg N cg := by
          rcases hx0.2 with ⟨rfl, h0⟩ | ⟨g, cap, cur, rfl, _⟩
          · exact ⟨none, 0, by rw [h0]⟩
          · exact ⟨_, _, rfl⟩
        go_wp2_with fail
        go_loopw [52] (fun i wr => ∃ (k : Nat) (xs : List Value), k ≤ N ∧ i = .int .i64 k ∧ wr.ownsRow w1.heap.size 9 1 (.slice pg N cg) N xs ∧ Below w1.heap.size w1 wr) (fun i _ => N - (intOf i).toNat)
        case atStart => exact ⟨0, xs0, by omega, rfl, hx0, b15⟩
        case round =>
          obtain ⟨k, xs, hk, rfl, hown, hbl⟩ := hrel
          clear hx0 b15
          by_cases hlt : k < N
          · obtain ⟨g, cap, he, hbg, hgs⟩ := hown.form (by omega)
            injection he with e1 e2 e3
            subst e1 e3
            have hlen : xs.length = N := by rw [hown.1, Nat.mul_one]
            obtain ⟨u, hcell⟩ : ∃ u, wr.cell? ⟨g, k, none⟩ = some u := by
              rw [hown.cellAt k (by omega)]
              exact ⟨_, List.getElem?_eq_getElem (by omega)⟩
            have hfz := hown.frozenAt k
            obtain ⟨hown', hgr⟩ := hown.stored k (.string ⟨#[]⟩)
            have hbl' := hbl.setCell (p := ⟨g, k, none⟩) hbg (.string ⟨#[]⟩)
            clear hlen hown hbl hgr e2
            go_wp2
            go_roundw
            case rel => exact ⟨k + 1, _, by omega, by go_num, hown', hbl'⟩
            case measure => simp [intOf]; omega
          · obtain rfl : k = N := by omega
            clear hlt hk hown
            have s6 := s1.step hbl
            clear s1 hbl
            go_wp2_with fail
            refine (refSame_any v1 _ l l _ (s6.reads _ (.head _)) (s6.reads _ (.tail _ (.head _)))).mono ?_
            rintro e w7 ⟨rfl, b1⟩
            have s7 := s6.step b1
            clear b1 s6
            rw [show decide (l = l) = true from by simp]
            go_wp2_with fail
            refine (known_any _ s7.laid).mono ?_
            rintro e w8 ⟨rfl, b1⟩
            have s8 := s7.step b1
            clear b1 s7
            go_wp2_with fail
            go_ret
            exact ⟨rfl, s8.bel⟩
  · have h7 : 60 < l.length := by omega
    clear h60
    go_enter Tryd.func6, Tryd.ntmps6
    go_wp2_with (go_at_call 10; refine (known_any _ hL).mono ?_; rintro e w' ⟨rfl, hb1⟩)
    go_ret
    exact ⟨rfl, hb1⟩
end Go.Proofs.YtbcfbdkacnnkgaaDoor
