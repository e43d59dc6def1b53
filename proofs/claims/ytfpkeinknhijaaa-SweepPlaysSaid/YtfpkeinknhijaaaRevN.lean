/- nil and zero indexes. -/
import Derived.Test.YtfpkeinknhijaaaRevL
namespace Go.Proofs.Ytfpkeinknhijaaa
set_option linter.unusedVariables false
open Go.RowKit Go.Maps Go.Sort

/-- There is no index, in any world that goes on from WF. -/
def NX (WF : World) (q : Option Addr) : Prop := ∀ w, Below WF.heap.size WF w → Calls Try.prog 55 #[.pointer q] w fun e w' => e = .returned (.bool true) ∧ w = w'
theorem nx_nil (WF : World) : NX WF none := fun w _ => rvnone_nil w
theorem nx_zero {WF : World} {x : Nat} (hx : x < WF.heap.size) (h : WF.cell? ⟨x, 0, none⟩ = some (.pointer none)) : NX WF (some ⟨x, 0, none⟩) := fun w hb => rvnone_zero ((hb.cell (p := ⟨x, 0, none⟩) hx).trans h)
theorem Below.go {WF w w' : World} (h : Below WF.heap.size WF w) (hb : Below w.heap.size w w') : Below WF.heap.size WF w' := h.trans (hb.mono h.size)
section
variable {WF w : World} {q : Option Addr} (h : NX WF q) (hb : Below WF.heap.size WF w)
include h hb
set_option maxHeartbeats 1000000 in
theorem nx_check (t : Int) : Calls Try.prog 62 #[.pointer q, .int .i64 t] w fun e w' => e = .returned (.int .i64 1) ∧ Below WF.heap.size WF w' := by
  have HN := Lib.hid (h w hb)
  have HB := Lib.hid hb
  clear h hb
  go_enter Try.func62, Try.ntmps62
  go_wp2_with (go_at_call 55; refine HN.out.mono ?_; rintro e w1 ⟨rfl, rfl⟩)
  go_ret
  exact ⟨rfl, HB.out⟩
set_option maxHeartbeats 1000000 in
theorem nx_add (id : Int) (v : Value) : Calls Try.prog 13 #[.pointer q, .int .u64 id, v] w fun e w' => e = .returned (.tuple #[.slice none 0 0, .int .i64 1]) ∧ Below WF.heap.size WF w' := by
  have HN := Lib.hid (h w hb)
  have HB := Lib.hid hb
  clear h hb
  go_enter Try.func13, Try.ntmps13
  go_wp2_with (go_at_call 55; refine HN.out.mono ?_; rintro e w1 ⟨rfl, rfl⟩)
  go_ret2
  exact ⟨rfl, HB.out⟩
set_option maxHeartbeats 1000000 in
theorem nx_find (s : ByteArray) : Calls Try.prog 51 #[.pointer q, .string s] w fun e w' => e = .returned (.tuple #[.int .i64 0, .int .i64 1]) ∧ Below WF.heap.size WF w' := by
  have HN := Lib.hid (h w hb)
  have HB := Lib.hid hb
  clear h hb
  go_enter Try.func51, Try.ntmps51
  go_wp2_with (go_at_call 55; refine HN.out.mono ?_; rintro e w1 ⟨rfl, rfl⟩)
  go_ret2
  exact ⟨rfl, HB.out⟩
set_option maxHeartbeats 1000000 in
theorem nx_known  : Calls Try.prog 23 #[.pointer q] w fun e w' => e = .returned (.slice none 0 0) ∧ Below WF.heap.size WF w' := by
  have HN := Lib.hid (h w hb)
  have HB := Lib.hid hb
  clear h hb
  go_enter Try.func23, Try.ntmps23
  go_wp2_with (go_at_call 55; refine HN.out.mono ?_; rintro e w1 ⟨rfl, rfl⟩)
  go_ret
  exact ⟨rfl, HB.out⟩
set_option maxHeartbeats 1000000 in
theorem nx_sizes  : Calls Try.prog 44 #[.pointer q] w fun e w' => e = .returned (.tuple #[.int .i64 0, .int .i64 0]) ∧ Below WF.heap.size WF w' := by
  have HN := Lib.hid (h w hb)
  have HB := Lib.hid hb
  clear h hb
  go_enter Try.func44, Try.ntmps44
  go_wp2_with (go_at_call 55; refine HN.out.mono ?_; rintro e w1 ⟨rfl, rfl⟩)
  go_ret2
  exact ⟨rfl, HB.out⟩
set_option maxHeartbeats 1000000 in
theorem nx_room  : Calls Try.prog 70 #[.pointer q] w fun e w' => e = .returned (.tuple #[.int .i64 0, .int .i64 0]) ∧ Below WF.heap.size WF w' := by
  have HN := Lib.hid (h w hb)
  have HB := Lib.hid hb
  clear h hb
  go_enter Try.func70, Try.ntmps70
  go_wp2_with (go_at_call 55; refine HN.out.mono ?_; rintro e w1 ⟨rfl, rfl⟩)
  go_ret2
  exact ⟨rfl, HB.out⟩
set_option maxHeartbeats 1000000 in
theorem nx_copy  : Calls Try.prog 32 #[.pointer q] w fun e w' => e = .returned (.pointer none) ∧ Below WF.heap.size WF w' := by
  have HN := Lib.hid (h w hb)
  have HB := Lib.hid hb
  clear h hb
  go_enter Try.func32, Try.ntmps32
  go_wp2_with (go_at_call 55; refine HN.out.mono ?_; rintro e w1 ⟨rfl, rfl⟩)
  go_ret
  exact ⟨rfl, HB.out⟩
set_option maxHeartbeats 1000000 in
theorem nx_slots (t : Int) : Calls Try.prog 52 #[.pointer q, .int .i64 t] w fun e w' => e = .returned (.tuple #[.slice none 0 0, .int .i64 1]) ∧ Below WF.heap.size WF w' := by
  have HC := Lib.hid (nx_check h hb t)
  clear h hb
  go_enter Try.func52, Try.ntmps52
  go_wp2_with (go_at_call 62; refine HC.out.mono ?_; rintro e w1 ⟨rfl, b1⟩)
  go_ret2
  exact ⟨rfl, b1⟩
set_option maxHeartbeats 1000000 in
theorem nx_next (t : Int) : Calls Try.prog 69 #[.pointer q, .int .i64 t] w fun e w' => e = .returned (.tuple #[.int .i64 0, .int .i64 1]) ∧ Below WF.heap.size WF w' := by
  have HC := Lib.hid (nx_check h hb t)
  clear h hb
  go_enter Try.func69, Try.ntmps69
  go_wp2_with (go_at_call 62; refine HC.out.mono ?_; rintro e w1 ⟨rfl, b1⟩)
  go_ret2
  exact ⟨rfl, b1⟩
set_option maxHeartbeats 1000000 in
theorem nx_cut (t i : Int) : Calls Try.prog 17 #[.pointer q, .int .i64 t, .int .i64 i] w fun e w' => e = .returned (.tuple #[.bool false, .int .i64 1]) ∧ Below WF.heap.size WF w' := by
  have HC := Lib.hid (nx_check h hb t)
  clear h hb
  go_enter Try.func17, Try.ntmps17
  go_wp2_with (go_at_call 62; refine HC.out.mono ?_; rintro e w1 ⟨rfl, b1⟩)
  go_ret2
  exact ⟨rfl, b1⟩
set_option maxHeartbeats 1000000 in
theorem nx_get (id : Int) : Calls Try.prog 61 #[.pointer q, .int .u64 id] w fun e w' => e = .returned (.tuple #[.agg #[.slice none 0 0, .slice none 0 0], .int .i64 1]) ∧ Below WF.heap.size WF w' := by
  have hb2 := Below.go hb ((Below.refl _ _).alloc (Nat.le_refl _) (.cells #[.slice none 0 0, .slice none 0 0] 118))
  have HN := Lib.hid (h _ hb2)
  have HB := Lib.hid hb2
  clear h hb hb2
  go_enter Try.func61, Try.ntmps61
  go_wp2_with (go_at_call 55; refine HN.out.mono ?_; rintro e w1 ⟨rfl, rfl⟩)
  refine bodyPost_ret (v := .tuple #[.agg #[.slice none 0 0, .slice none 0 0], .int .i64 1]) (by simp [results, Try.results61, go_sem]) rfl ⟨rfl, HB.out⟩
set_option maxHeartbeats 1000000 in
theorem nx_drop (id : Int) : Calls Try.prog 15 #[.pointer q, .int .u64 id] w fun e w' => e = .returned (.tuple #[.slice none 0 0, .int .i64 1]) ∧ Below WF.heap.size WF w' := by
  have HC := Lib.hid (nx_get h hb id)
  clear h hb
  go_enter Try.func15, Try.ntmps15
  go_wp2_with (go_at_call 61; refine HC.out.mono ?_; rintro e w1 ⟨rfl, b1⟩; have b2 := b1.alloc b1.size (.cells #[.slice none 0 0, .slice none 0 0] 118))
  go_ret2
  exact ⟨rfl, b2⟩
set_option maxHeartbeats 1000000 in
theorem nx_live (id : Int) : Calls Try.prog 21 #[.pointer q, .int .u64 id] w fun e w' => e = .returned (.bool false) ∧ Below WF.heap.size WF w' := by
  have HC := Lib.hid (nx_get h hb id)
  clear h hb
  go_enter Try.func21, Try.ntmps21
  go_wp2_with (go_at_call 61; refine HC.out.mono ?_; rintro e w1 ⟨rfl, b1⟩; have b2 := b1.alloc b1.size (.cells #[.slice none 0 0, .slice none 0 0] 118))
  go_ret
  exact ⟨rfl, b2⟩
set_option maxHeartbeats 1000000 in
theorem nx_tags (id : Int) : Calls Try.prog 18 #[.pointer q, .int .u64 id] w fun e w' => ∃ v, e = .returned (.tuple #[v, .int .i64 1]) ∧ w'.ownsRow WF.heap.size 9 1 v 0 [] ∧ Below WF.heap.size WF w' := by
  have HC := Lib.hid (nx_get h hb id)
  have HCL := Lib.hid (fun W => cloneS_any (.slice none 0 0) [] W (Reads.nil _ _ _) (by decide))
  clear h hb
  go_enter Try.func18, Try.ntmps18
  go_wp2_with (first
    | (go_at_call 61; refine HC.out.mono ?_; rintro e w1 ⟨rfl, b1⟩; have b2 := b1.alloc b1.size (.cells #[.slice none 0 0, .slice none 0 0] 118))
    | (go_at_call 64; refine (HCL.out _).mono ?_; rintro e w2 ⟨v2, rfl, hv2, b3⟩; have b4 := Below.go b2 b3))
  go_ret2
  exact ⟨v2, rfl, ownsRow_low hv2 b2.size, b4⟩
set_option maxHeartbeats 1000000 in
theorem nx_nums (id : Int) : Calls Try.prog 19 #[.pointer q, .int .u64 id] w fun e w' => ∃ v, e = .returned (.tuple #[v, .int .i64 1]) ∧ w'.ownsRow WF.heap.size 3 1 v 0 [] ∧ Below WF.heap.size WF w' := by
  have HC := Lib.hid (nx_get h hb id)
  have HCL := Lib.hid (fun W => cloneI_any (.slice none 0 0) [] W (Reads.nil _ _ _) (by decide))
  clear h hb
  go_enter Try.func19, Try.ntmps19
  go_wp2_with (first
    | (go_at_call 61; refine HC.out.mono ?_; rintro e w1 ⟨rfl, b1⟩; have b2 := b1.alloc b1.size (.cells #[.slice none 0 0, .slice none 0 0] 118))
    | (go_at_call 60; refine (HCL.out _).mono ?_; rintro e w2 ⟨v2, rfl, hv2, b3⟩; have b4 := Below.go b2 b3))
  go_ret2
  exact ⟨v2, rfl, ownsRow_low hv2 b2.size, b4⟩
set_option maxHeartbeats 1000000 in
theorem nx_right (s : ByteArray) : Calls Try.prog 26 #[.pointer q, .string s] w fun e w' => e = .returned (.slice none 0 0) ∧ Below WF.heap.size WF w' := by
  have hb2 := Below.go hb ((Below.refl _ _).alloc (Nat.le_refl _) (.cells #[.pointer q] 25))
  have HC := Lib.hid (nx_find h hb2 s)
  clear h hb hb2
  go_enter Try.func26, Try.ntmps26
  go_wp2_with (go_at_call 51; refine HC.out.mono ?_; rintro e w1 ⟨rfl, b1⟩)
  go_ret
  exact ⟨rfl, b1⟩
set_option maxHeartbeats 1000000 in
theorem nl_adds (id : Int) (v : Value) : Calls Try.prog 14 #[.pointer q, .int .u64 id, v, .slice none 0 0, .int .i64 1] w fun e w' => e = .returned (.bool true) ∧ Below WF.heap.size WF w' := by
  have HC := Lib.hid (nx_add h hb id v)
  clear h hb
  go_enter Try.func14, Try.ntmps14
  go_wp2_with (first
    | (go_at_call 13; refine HC.out.mono ?_; rintro e w1 ⟨rfl, b1⟩)
    | (go_at_call 49; refine (ints_any (.slice none 0 0) (.slice none 0 0) [] w1 (Reads.nil _ _ _) (Reads.nil _ _ _)).mono ?_; rintro e w2 ⟨rfl, b2⟩; have b3 := Below.go b1 b2))
  go_ret
  exact ⟨rfl, b3⟩
set_option maxHeartbeats 1000000 in
theorem nl_drops (id : Int) : Calls Try.prog 16 #[.pointer q, .int .u64 id, .slice none 0 0, .int .i64 1] w fun e w' => e = .returned (.bool true) ∧ Below WF.heap.size WF w' := by
  have HC := Lib.hid (nx_drop h hb id)
  clear h hb
  go_enter Try.func16, Try.ntmps16
  go_wp2_with (first
    | (go_at_call 15; refine HC.out.mono ?_; rintro e w1 ⟨rfl, b1⟩)
    | (go_at_call 49; refine (ints_any (.slice none 0 0) (.slice none 0 0) [] w1 (Reads.nil _ _ _) (Reads.nil _ _ _)).mono ?_; rintro e w2 ⟨rfl, b2⟩; have b3 := Below.go b1 b2))
  go_ret
  exact ⟨rfl, b3⟩
set_option maxHeartbeats 1000000 in
theorem nl_slots (t : Int) : Calls Try.prog 27 #[.pointer q, .int .i64 t, .slice none 0 0, .int .i64 1] w fun e w' => e = .returned (.bool true) ∧ Below WF.heap.size WF w' := by
  have HC := Lib.hid (nx_slots h hb t)
  clear h hb
  go_enter Try.func27, Try.ntmps27
  go_wp2_with (first
    | (go_at_call 52; refine HC.out.mono ?_; rintro e w1 ⟨rfl, b1⟩)
    | (go_at_call 53; refine (ids_any (.slice none 0 0) (.slice none 0 0) [] w1 (Reads.nil _ _ _) (Reads.nil _ _ _)).mono ?_; rintro e w2 ⟨rfl, b2⟩; have b3 := Below.go b1 b2))
  go_ret
  exact ⟨rfl, b3⟩
set_option maxHeartbeats 1000000 in
theorem nl_cuts (t i : Int) : Calls Try.prog 29 #[.pointer q, .int .i64 t, .int .i64 i, .bool false, .int .i64 1] w fun e w' => e = .returned (.bool true) ∧ Below WF.heap.size WF w' := by
  have HC := Lib.hid (nx_cut h hb t i)
  clear h hb
  go_enter Try.func29, Try.ntmps29
  go_wp2_with (go_at_call 17; refine HC.out.mono ?_; rintro e w1 ⟨rfl, b1⟩)
  go_ret
  exact ⟨rfl, b1⟩
set_option maxHeartbeats 1000000 in
theorem nl_nexts (t : Int) : Calls Try.prog 28 #[.pointer q, .int .i64 t, .int .i64 0, .int .i64 1] w fun e w' => e = .returned (.bool true) ∧ Below WF.heap.size WF w' := by
  have HC := Lib.hid (nx_next h hb t)
  clear h hb
  go_enter Try.func28, Try.ntmps28
  go_wp2_with (go_at_call 69; refine HC.out.mono ?_; rintro e w1 ⟨rfl, b1⟩)
  go_ret
  exact ⟨rfl, b1⟩
set_option maxHeartbeats 1000000 in
theorem nl_finds (s : ByteArray) : Calls Try.prog 25 #[.pointer q, .string s, .int .i64 0, .int .i64 1] w fun e w' => e = .returned (.bool true) ∧ Below WF.heap.size WF w' := by
  have HC := Lib.hid (nx_find h hb s)
  clear h hb
  go_enter Try.func25, Try.ntmps25
  go_wp2_with (go_at_call 51; refine HC.out.mono ?_; rintro e w1 ⟨rfl, b1⟩)
  go_ret
  exact ⟨rfl, b1⟩
set_option maxHeartbeats 1000000 in
theorem nl_sizes  : Calls Try.prog 30 #[.pointer q, .int .i64 0, .int .i64 0] w fun e w' => e = .returned (.bool true) ∧ Below WF.heap.size WF w' := by
  have HC := Lib.hid (nx_sizes h hb)
  clear h hb
  go_enter Try.func30, Try.ntmps30
  go_wp2_with (go_at_call 44; refine HC.out.mono ?_; rintro e w1 ⟨rfl, b1⟩)
  go_ret
  exact ⟨rfl, b1⟩
set_option maxHeartbeats 1000000 in
theorem nl_rooms  : Calls Try.prog 31 #[.pointer q, .int .i64 0, .int .i64 0] w fun e w' => e = .returned (.bool true) ∧ Below WF.heap.size WF w' := by
  have HC := Lib.hid (nx_room h hb)
  clear h hb
  go_enter Try.func31, Try.ntmps31
  go_wp2_with (go_at_call 70; refine HC.out.mono ?_; rintro e w1 ⟨rfl, b1⟩)
  go_ret
  exact ⟨rfl, b1⟩
set_option maxHeartbeats 1000000 in
theorem nl_has (id : Int) : Calls Try.prog 20 #[.pointer q, .int .u64 id, .slice none 0 0, .slice none 0 0, .int .i64 1] w fun e w' => e = .returned (.bool true) ∧ Below WF.heap.size WF w' := by
  have HT := Lib.hid (nx_tags h hb id)
  have HN := Lib.hid (fun W hW => nx_nums (w := W) h hW id)
  clear h hb
  go_enter Try.func20, Try.ntmps20
  go_wp2_with (first
    | (go_at_call 18; refine HT.out.mono ?_; rintro e w1 ⟨v1, rfl, hv1, b1⟩; obtain ⟨pp, cc, rfl⟩ := owns_form hv1)
    | (go_at_call 19; refine (HN.out w1 b1).mono ?_; rintro e w2 ⟨v2, rfl, hv2, b2⟩; obtain ⟨pp2, cc2, rfl⟩ := owns_form hv2)
    | (go_at_call 22; refine (strings_any _ (.slice none 0 0) [] w2 (Reads.nil _ _ _) (Reads.nil _ _ _)).mono ?_; rintro e w3 ⟨rfl, b3⟩; have b4 := Below.go b2 b3)
    | (go_at_call 49; refine (ints_any _ (.slice none 0 0) [] w3 (Reads.nil _ _ _) (Reads.nil _ _ _)).mono ?_; rintro e w4 ⟨rfl, b5⟩; have b6 := Below.go b4 b5))
  go_ret
  exact ⟨rfl, b6⟩
end
set_option maxHeartbeats 8000000 in
set_option maxRecDepth 100000 in
theorem rnil_walk (id : Int) (s : ByteArray) (t i : Int) (w : World) :
    Calls Try.prog 4 #[.int .u64 id, .string s, .int .i64 t, .int .i64 i] w fun e w' => e = .returned (.bool true) ∧ Below w.heap.size w w' := by
  have HK := Lib.hid (fun w' : World => rknown_any w')
  by_cases hs : 100 < (s.size : Int)
  · go_enter Try.func4, Try.ntmps4
    go_wp2_with (go_at_call 11; refine (HK.out _).mono ?_; rintro e w1 ⟨rfl, b1⟩)
    go_ret
    exact ⟨rfl, b1⟩
  · go_enter Try.func4, Try.ntmps4
    go_wp2_with fail
    have hb : Below w.heap.size w ((w.alloc (.cells #[.pointer none, .int .u64 0, .map none, .map none, .int .i64 0, .int .i64 0] 53)).alloc (.cells #[.pointer none, .pointer (some ⟨w.heap.size, 0, none⟩)] 25)) := ((Below.refl _ _).alloc (Nat.le_refl _) _).alloc (by simp) _
    have hz := Blk.alloc (Blk.new w 53 #[.pointer none, .int .u64 0, .map none, .map none, .int .i64 0, .int .i64 0]) (.cells #[.pointer none, .pointer (some ⟨w.heap.size, 0, none⟩)] 25)
    have zb := Blk.new (w.alloc (.cells #[.pointer none, .int .u64 0, .map none, .map none, .int .i64 0, .int .i64 0] 53)) 25 #[.pointer none, .pointer (some ⟨w.heap.size, 0, none⟩)]
    rw [show (w.alloc (.cells #[.pointer none, .int .u64 0, .map none, .map none, .int .i64 0, .int .i64 0] 53)).heap.size = w.heap.size + 1 by simp] at zb
    have HZ := Lib.hid hz
    have HZB := Lib.hid zb
    have HB := Lib.hid hb
    clear hz zb hb
    generalize ((w.alloc (.cells #[.pointer none, .int .u64 0, .map none, .map none, .int .i64 0, .int .i64 0] 53)).alloc (.cells #[.pointer none, .pointer (some ⟨w.heap.size, 0, none⟩)] 25)) = W at *
    have H0 := Lib.hid (nx_nil W)
    have H1 := Lib.hid (nx_zero HZ.out.lt (HZ.out.cell 0))
    go_loopg [19] 2 (fun r i wr => ∃ j : Nat, j ≤ 2 ∧ r + j = 2 ∧ i = .int .i64 j ∧ Below W.heap.size W wr)
    case atStart => exact ⟨0, by omega, by omega, rfl, Below.refl _ _⟩
    case round =>
      obtain ⟨j, hj, hr, rfl, hbr⟩ := hrel
      have HBR := Lib.hid hbr
      have zb := HZB.out.below hbr HZB.out.lt
      have c0 := zb.cell 0
      have c1 := zb.cell 1
      simp only [List.getElem?_toArray, List.getElem?_cons_zero, List.getElem?_cons_succ] at c0 c1
      clear zb
      have hba : Below W.heap.size W (wr.alloc (.cells #[.string s] 9)) := hbr.alloc hbr.size _
      have hx : j = 2 ∨ ∃ q, NX W q ∧ j < 2 ∧ wr.cell? ⟨w.heap.size + 1, j, none⟩ = some (.pointer q) := by
        rcases (by omega : j = 0 ∨ j = 1 ∨ j = 2) with rfl | rfl | rfl
        · exact .inr ⟨_, H0.out, by omega, c0⟩
        · exact .inr ⟨_, H1.out, by omega, c1⟩
        · exact .inl rfl
      clear c0 c1 hbr
      rcases hx with rfl | ⟨q, hq, hj2, hc⟩
      · go_wp2_with (go_at_call 11; refine (HK.out _).mono ?_; rintro e w1 ⟨rfl, b1⟩)
        go_ret
        exact ⟨rfl, HB.out.trans ((Below.go HBR.out b1).mono HB.out.size)⟩
      · have HQ := Lib.hid hq
        clear hq
        go_wp2_with (first
          | (go_at_call 14; refine (nl_adds HQ.out hba id _).mono ?_; rintro e w1 ⟨rfl, b1⟩)
          | (go_at_call 16; refine (nl_drops HQ.out b1 id).mono ?_; rintro e w2 ⟨rfl, b2⟩)
          | (go_at_call 21; refine (nx_live HQ.out b2 id).mono ?_; rintro e w3 ⟨rfl, b3⟩)
          | (go_at_call 20; refine (nl_has HQ.out b3 id).mono ?_; rintro e w4 ⟨rfl, b4⟩)
          | (go_at_call 25; refine (nl_finds HQ.out b4 s).mono ?_; rintro e w5 ⟨rfl, b5⟩)
          | (go_at_call 23; refine (nx_known HQ.out b5).mono ?_; rintro e w6 ⟨rfl, b6⟩)
          | (go_at_call 26; refine (nx_right HQ.out b6 s).mono ?_; rintro e w7 ⟨rfl, b7⟩)
          | (go_at_call 27; refine (nl_slots HQ.out b7 t).mono ?_; rintro e w8 ⟨rfl, b8⟩)
          | (go_at_call 28; refine (nl_nexts HQ.out b8 t).mono ?_; rintro e w9 ⟨rfl, b9⟩)
          | (go_at_call 29; refine (nl_cuts HQ.out b9 t i).mono ?_; rintro e w10 ⟨rfl, b10⟩)
          | (go_at_call 30; refine (nl_sizes HQ.out b10).mono ?_; rintro e w11 ⟨rfl, b11⟩)
          | (go_at_call 31; refine (nl_rooms HQ.out b11).mono ?_; rintro e w12 ⟨rfl, b12⟩)
          | (go_at_call 32; refine (nx_copy HQ.out b12).mono ?_; rintro e w13 ⟨rfl, b13⟩))
        go_roundg (2 - (j + 1))
        case measure => omega
        case rel => exact ⟨j + 1, by omega, by omega, by go_num, b13⟩
end Go.Proofs.Ytfpkeinknhijaaa
