/- A table as a whole; Find, at, Name, Refs, Len. -/
import Derived.Test.YthngkimncdpekaaIntF
namespace Go.Proofs.Ythngkimncdpekaa
set_option linter.unusedVariables false
open Go.RowKit Go.Maps Go.Sort

abbrev freeI (l : Nms) : List Int := (freeL l).map (fun n : Nat => (n : Int))
/-- A table in memory: O its own blocks. -/
def Tab (w : World) (b : Nat) (O : Nat → Prop) (most seed : Int) (l : Nms) : Prop :=
  ∃ hb hc lv fv hd nx ch, Tb w b most seed hb hc lv fv hd nx l (freeI l) (liveN l) ∧ Chains (hsN seed) hd nx l ch (fun _ => True) ∧ (∀ g, O g ↔ inO b hb lv fv g) ∧ hd.length ≤ 140000
section
variable {w w' : World} {b : Nat} {O : Nat → Prop} {most seed : Int} {l : Nms}
theorem Tab.only {S : Nat → Prop} (t : Tab w b O most seed l) (ho : Only S w w') (hn : ∀ g, O g → ¬ S g) : Tab w' b O most seed l := by
  obtain ⟨hb, hc, lv, fv, hd, nx, ch, t1, t2, t3, t4⟩ := t
  exact ⟨hb, hc, lv, fv, hd, nx, ch, t1.only ho (fun g hg => hn g ((t3 g).2 hg)), t2, t3, t4⟩
theorem Tab.below (t : Tab w b O most seed l) (ho : Below w.heap.size w w') : Tab w' b O most seed l := t.only (Only.of_below ho (fun _ => False)) (fun _ _ h => h)
theorem Tab.box (t : Tab w b O most seed l) : w.cell? ⟨b, 0, none⟩ = some (.int .i64 most) := by
  obtain ⟨hb, hc, lv, fv, hd, nx, ch, t1, _⟩ := t
  exact t1.cells.1
theorem Tab.own (t : Tab w b O most seed l) : O b ∧ b < w.heap.size := by
  obtain ⟨hb, hc, lv, fv, hd, nx, ch, t1, _, t3, t4⟩ := t
  exact ⟨(t3 b).2 (.inl rfl), t1.box.lt⟩
theorem Tab.lt (t : Tab w b O most seed l) {g : Nat} (hg : O g) : g < w.heap.size := by
  obtain ⟨hb, hc, lv, fv, hd, nx, ch, t1, _, t3, t4⟩ := t
  rcases (t3 g).1 hg with rfl | rfl | h | h
  · exact t1.box.lt
  · exact ownsRow_lt t1.heads rfl
  · exact ownsRow_lt t1.list h
  · exact t1.fl g h
theorem Tab.low (t : Tab w b O most seed l) : l.length ≤ 100000 := by
  obtain ⟨hb, hc, lv, fv, hd, nx, ch, t1, _, t3, t4⟩ := t
  exact t1.low
end

section
variable {w : World} {b : Nat} {O : Nat → Prop} {most seed R : Int} {l : Nms} (t : Tab w b O most seed l) (hm : 1 ≤ most) (hw : Wf most R l)
include t hm hw
set_option maxHeartbeats 1000000 in
theorem tfind_any (s : ByteArray) (hs : s.size ≤ 140737488355328) :
    Calls Try.prog 81 #[.pointer (some ⟨b, 0, none⟩), .string s] w fun e w' => e = .returned (.tuple #[.int .i64 (findM l s.data.toList).1, .int .i64 (findM l s.data.toList).2]) ∧ Below w.heap.size w w' := by
  have HN := Lib.hid (none_no t.box hm)
  rcases Bool.eq_false_or_eq_true (validB s.data.toList) with hv | hv
  · have HV := Lib.hid (fun w => valid_yes s hv w)
    obtain ⟨hb, hc, lv, fv, hd', nx, ch, t1, t2, t3, t4⟩ := t
    have HF := Lib.hid (find_any t1 t2 hw.dist s hs)
    cases hf : findN l s.data.toList with
    | some n =>
      have hM : Hid (findM l s.data.toList = ((n : Int), 0)) := by unfold findM Hid; rw [if_pos hv, hf]
      rw [hf] at HF
      clear t1 t2 t3 hw hf hv
      change Hid (Calls _ _ _ _ fun e w' => e = .returned (.int .i64 (n : Int)) ∧ _) at HF
      go_enter Try.func81, Try.ntmps81
      go_wp2_with (first
        | (go_at_call 84; refine HN.out.mono ?_; rintro e w1 ⟨rfl, rfl⟩)
        | (go_at_call 85; refine (HV.out _).mono ?_; rintro e w1 ⟨rfl, rfl⟩)
        | (go_at_call 86; refine HF.out.mono ?_; rintro e w1 ⟨rfl, b1⟩))
      go_ret2
      exact ⟨by rw [hM.out]; rfl, b1⟩
    | none =>
      have hM : Hid (findM l s.data.toList = (0, 9)) := by unfold findM Hid; rw [if_pos hv, hf]
      rw [hf] at HF
      clear t1 t2 t3 hw hf hv
      change Hid (Calls _ _ _ _ fun e w' => e = .returned (.int .i64 (-1)) ∧ _) at HF
      go_enter Try.func81, Try.ntmps81
      go_wp2_with (first
        | (go_at_call 84; refine HN.out.mono ?_; rintro e w1 ⟨rfl, rfl⟩)
        | (go_at_call 85; refine (HV.out _).mono ?_; rintro e w1 ⟨rfl, rfl⟩)
        | (go_at_call 86; refine HF.out.mono ?_; rintro e w1 ⟨rfl, b1⟩))
      go_ret2
      exact ⟨by rw [hM.out]; rfl, b1⟩
  · have HV := Lib.hid (fun w => valid_no s hv w)
    have hM : Hid (findM l s.data.toList = (0, 2)) := by unfold findM Hid; rw [if_neg (by rw [hv]; decide)]
    clear hv t hw
    go_enter Try.func81, Try.ntmps81
    go_wp2_with (first
      | (go_at_call 84; refine HN.out.mono ?_; rintro e w1 ⟨rfl, rfl⟩)
      | (go_at_call 85; refine (HV.out _).mono ?_; rintro e w1 ⟨rfl, rfl⟩))
    go_ret2
    exact ⟨by rw [hM.out]; rfl, Below.refl _ _⟩
set_option maxHeartbeats 1000000 in
theorem at_no (n : Int) (h : hasM l n = false) :
    Calls Try.prog 89 #[.pointer (some ⟨b, 0, none⟩), .int .i64 n] w fun e w' => e = .returned (.tuple #[.pointer none, .int .i64 9]) ∧ w = w' := by
  have HN := Lib.hid (none_no t.box hm)
  by_cases h0 : n < 0
  · clear t hw
    go_enter Try.func89, Try.ntmps89
    go_wp2_with (go_at_call 84; refine HN.out.mono ?_; rintro e w1 ⟨rfl, rfl⟩)
    go_ret2
    exact ⟨rfl, rfl⟩
  · obtain ⟨k, rfl⟩ := Int.eq_ofNat_of_zero_le (by omega : 0 ≤ n)
    have hlow := t.low
    obtain ⟨hb, hc, lv, fv, hd', nx, ch, t1, t2, t3, t4⟩ := t
    obtain ⟨c0, c1, c2, c3, c4, c5⟩ := t1.cells
    by_cases hk : k < l.length
    · obtain ⟨g, cap, rfl, _, _, _⟩ := t1.lform (by omega)
      obtain ⟨n0, n1, n2⟩ := t1.names hk
      have hr : (nmAt l k).2 ≤ 0 := by
        unfold hasM liveB at h
        simpa using h
      by_cases hz : (nmAt l k).2 = 0
      · rw [hz] at n1
        clear hw t1 t2 t3 h hr hz n0 n2 c0 c1 c2 c4 c5
        go_enter Try.func89, Try.ntmps89
        go_wp2_with (go_at_call 84; refine HN.out.mono ?_; rintro e w1 ⟨rfl, rfl⟩)
        go_ret2
        exact ⟨rfl, rfl⟩
      · exact absurd (Int.le_antisymm hr (hw.refs k).1) hz
    · obtain ⟨p, cap, rfl⟩ : ∃ p cap, lv = .slice p l.length cap := by
        rcases Nat.eq_zero_or_pos l.length with hz | hz
        · rcases t1.list.2 with ⟨rfl, _⟩ | ⟨g, cap, _, rfl, _⟩
          · exact ⟨none, 0, by rw [hz]⟩
          · exact ⟨_, _, rfl⟩
        · obtain ⟨g, cap, e, _⟩ := t1.lform hz
          exact ⟨_, _, e⟩
      clear hw t1 t2 t3 h c0 c1 c2 c4 c5
      go_enter Try.func89, Try.ntmps89
      go_wp2_with (go_at_call 84; refine HN.out.mono ?_; rintro e w1 ⟨rfl, rfl⟩)
      go_ret2
      exact ⟨rfl, rfl⟩
end
set_option maxHeartbeats 1000000 in
theorem at_yes {w : World} {b : Nat} {most seed : Int} {hb hc g cap : Nat} {fv : Value} {hd nx : List Int} {l : Nms} {fr : List Int} {many : Int} (t : Tb w b most seed hb hc (.slice (some ⟨g, 0, none⟩) l.length cap) fv hd nx l fr many) (hm : 1 ≤ most) (n : Nat) (h : liveB l n = true) :
    Calls Try.prog 89 #[.pointer (some ⟨b, 0, none⟩), .int .i64 n] w fun e w' => e = .returned (.tuple #[.pointer (some ⟨g, n * 3, none⟩), .int .i64 0]) ∧ w = w' := by
  obtain ⟨c0, c1, c2, c3, c4, c5⟩ := t.cells
  have HN := Lib.hid (none_no c0 hm)
  have hlow := t.low
  have hk := live_lt h
  obtain ⟨n0, n1, n2⟩ := t.names hk
  have hr : ((nmAt l n).2 == 0) = false := by
    rw [beq_eq_false_iff_ne]
    unfold liveB at h
    rw [decide_eq_true_eq] at h
    omega
  clear t h n0 n2 c0 c1 c2 c4 c5
  go_enter Try.func89, Try.ntmps89
  go_wp2_with (go_at_call 84; refine HN.out.mono ?_; rintro e w1 ⟨rfl, rfl⟩)
  go_ret2
  exact ⟨rfl, rfl⟩
theorem at_nil (n : Int) (w : World) :
    Calls Try.prog 89 #[.pointer none, .int .i64 n] w fun e w' => e = .returned (.tuple #[.pointer none, .int .i64 1]) ∧ w = w' := by
  have HN := Lib.hid none_nil
  go_enter Try.func89, Try.ntmps89
  go_wp2_with (go_at_call 84; refine (HN.out _).mono ?_; rintro e w1 ⟨rfl, rfl⟩)
  go_ret2
  exact ⟨rfl, rfl⟩
theorem at_zero {w : World} {b : Nat} (hc : w.cell? ⟨b, 0, none⟩ = some (.int .i64 0)) (n : Int) :
    Calls Try.prog 89 #[.pointer (some ⟨b, 0, none⟩), .int .i64 n] w fun e w' => e = .returned (.tuple #[.pointer none, .int .i64 1]) ∧ w = w' := by
  have HN := Lib.hid (none_zero hc)
  clear hc
  go_enter Try.func89, Try.ntmps89
  go_wp2_with (go_at_call 84; refine HN.out.mono ?_; rintro e w1 ⟨rfl, rfl⟩)
  go_ret2
  exact ⟨rfl, rfl⟩
section
variable {w : World} {b : Nat} {O : Nat → Prop} {most seed R : Int} {l : Nms} (t : Tab w b O most seed l) (hm : 1 ≤ most)
include t hm
theorem len_any :
    Calls Try.prog 99 #[.pointer (some ⟨b, 0, none⟩)] w fun e w' => e = .returned (.tuple #[.int .i64 (liveN l), .int .i64 most]) ∧ Below w.heap.size w w' := by
  obtain ⟨hb, hc, lv, fv, hd', nx, ch, t1, t2, t3, t4⟩ := t
  obtain ⟨c0, c1, c2, c3, c4, c5⟩ := t1.cells
  have HN := Lib.hid (none_no c0 hm)
  clear t1 t2 t3 c1 c2 c3 c4
  go_enter Try.func99, Try.ntmps99
  go_wp2_with (go_at_call 84; refine HN.out.mono ?_; rintro e w1 ⟨rfl, rfl⟩)
  go_quiet (fail)
  go_wp2_with fail
  go_ret2
  exact ⟨rfl, below_drewN (Below.refl _ _) _⟩
end
end Go.Proofs.Ythngkimncdpekaa
