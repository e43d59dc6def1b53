/- Add. -/
import Derived.Test.YthngkimncdpekaaIntW
import Derived.Deep.DeepCutAuto
import Derived.BigRegion
namespace Go.Proofs.Ythngkimncdpekaa
set_option linter.unusedVariables false
open Go.RowKit Go.Maps Go.Sort

theorem info_name : (Try.prog.info? 152).map (fun i => (i.zero, i.size, i.bytes)) = some (some (.agg #[.string ⟨#[]⟩, .int .i64 0, .int .i64 0]), 3, 32) := by kernel_rfl
/-- What Add leaves. -/
def AddP (w : World) (b : Nat) (O : Nat → Prop) (most seed : Int) (r : Nms × Int × Int) (e : Ending) (w' : World) : Prop :=
  ∃ O', e = .returned (.tuple #[.int .i64 r.2.1, .int .i64 r.2.2]) ∧ Tab w' b O' most seed r.1 ∧ Only O w w' ∧ (∀ g, O' g → O g ∨ w.heap.size ≤ g)
theorem AddP.same {w w' : World} {b : Nat} {O : Nat → Prop} {most seed n e : Int} {l : Nms} (t : Tab w' b O most seed l) (ho : Only O w w') : AddP w b O most seed (l, n, e) (.returned (.tuple #[.int .i64 n, .int .i64 e])) w' :=
  ⟨O, rfl, t, ho, fun _ h => .inl h⟩
section
variable {w : World} {b : Nat} {O : Nat → Prop} {most seed R : Int} {l : Nms} (t : Tab w b O most seed l) (hm : 1 ≤ most) (hw : Wf most R l)
include t hm
theorem add_bad (s : ByteArray) (hv : validB s.data.toList = false) :
    Calls Try.prog 58 #[.pointer (some ⟨b, 0, none⟩), .string s] w (AddP w b O most seed (addM most l s.data.toList)) := by
  have HN := Lib.hid (none_no t.box hm)
  have HV := Lib.hid (fun w => valid_no s hv w)
  have hM : addM most l s.data.toList = (l, 0, 2) := by unfold addM; rw [if_neg (by rw [hv]; decide)]
  rw [hM]
  have T := Lib.hid t
  clear hv t hM
  go_enter Try.func58, Try.ntmps58
  go_wp2_with (first
    | (go_at_call 84; refine HN.out.mono ?_; rintro e w1 ⟨rfl, rfl⟩)
    | (go_at_call 85; refine (HV.out _).mono ?_; rintro e w1 ⟨rfl, rfl⟩))
  go_ret2
  exact AddP.same T.out (Only.refl _ _)
include hw
set_option maxHeartbeats 1000000 in
theorem add_there (hR : R < 2147483647) (s : ByteArray) (hs : s.size ≤ 140737488355328) (hv : validB s.data.toList = true) (n : Nat) (hf : findN l s.data.toList = some n) :
    Calls Try.prog 58 #[.pointer (some ⟨b, 0, none⟩), .string s] w (AddP w b O most seed (addM most l s.data.toList)) := by
  have HN := Lib.hid (none_no t.box hm)
  have HV := Lib.hid (fun w => valid_yes s hv w)
  have hM : addM most l s.data.toList = (l.set n (s.data.toList, (nmAt l n).2 + 1), (n : Int), 0) := by unfold addM; rw [if_pos hv, hf]
  rw [hM]
  obtain ⟨hlive, htext⟩ := findN_some hf
  have hn := live_lt hlive
  have hr := hw.refs n
  have hpos : 0 < (nmAt l n).2 := by unfold liveB at hlive; simpa using hlive
  have hlow := t.low
  obtain ⟨hb, hc, lv, fv, hd, nx, ch, t1, t2, t3, t4⟩ := t
  obtain ⟨g, cap, rfl, hg, _, _⟩ := t1.lform (by omega)
  have HF := find_any t1 t2 hw.dist s hs
  rw [hf] at HF
  have HF : Hid (Calls _ _ _ _ fun e w' => e = .returned (.int .i64 (n : Int)) ∧ _) := HF
  have hfree : freeL (l.set n (s.data.toList, (nmAt l n).2 + 1)) = freeL l := by
    have hx : liveX (s.data.toList, (nmAt l n).2 + 1) = true := by unfold liveX; simp; omega
    rw [freeL_live hn hlive, freeL_live (l := l.set n _) (n := n) (by rw [List.length_set]; exact hn) (by rw [liveB_set hn, if_pos rfl]; exact hx), freeBelow_set _ hn, freeAbove_set _ hn]
  have hmany : liveN (l.set n (s.data.toList, (nmAt l n).2 + 1)) = liveN l := by
    have hx : liveX (s.data.toList, (nmAt l n).2 + 1) = true := by unfold liveX; simp; omega
    have := liveN_set hn (s.data.toList, (nmAt l n).2 + 1)
    rw [if_pos hlive, if_pos hx] at this
    omega
  have hch : Chains (hsN seed) hd nx (l.set n (s.data.toList, (nmAt l n).2 + 1)) ch (fun _ => True) := t2.same (by rw [List.length_set]) (fun m => by
      rw [liveB_set hn]
      split
      · rename_i e; subst e; rw [hlive]; unfold liveX; simp; omega
      · rfl) (fun m _ => by
      rw [nmAt_set hn]
      split
      · rename_i e; subst e; exact htext.symm
      · rfl)
  have HE : Hid (∀ w', Only (inO b hb (.slice (some ⟨g, 0, none⟩) l.length cap) fv) w w' → Tb w' b most seed hb hc (.slice (some ⟨g, 0, none⟩) (l.set n ((nmAt l n).1, (nmAt l n).2 + 1)).length cap) fv hd nx (l.set n ((nmAt l n).1, (nmAt l n).2 + 1)) (freeI l) (liveN l) → AddP w b O most seed (l.set n (s.data.toList, (nmAt l n).2 + 1), (n : Int), 0) (.returned (.tuple #[.int .i64 n, .int .i64 0])) w') := by
    intro w' ho ht
    rw [htext, List.length_set] at ht
    refine ⟨O, rfl, ⟨hb, hc, .slice (some ⟨g, 0, none⟩) l.length cap, fv, hd, nx, ch, ?_, hch, t3, t4⟩, ho.more (fun k hk => .inl ((t3 k).2 hk)), fun _ h => .inl h⟩
    unfold freeI
    rw [hfree, hmany]
    exact ht
  have T1 := Lib.hid t1
  have hrl : (nmAt l n).2 < 2147483647 := by omega
  clear hv t1 t2 t3 hM hw hf hlive htext hfree hmany hch hr
  obtain ⟨r, hre⟩ : ∃ r, (nmAt l n).2 = r := ⟨_, rfl⟩
  rw [hre] at HE hpos hrl ⊢
  have HRE := Lib.hid hre
  clear hre
  have hne : (r == 2147483647) = false := by rw [beq_eq_false_iff_ne]; omega
  go_enter Try.func58, Try.ntmps58
  go_wp2_with fail
  refine HN.out.mono ?_
  rintro e w1 ⟨rfl, rfl⟩
  go_wp2_with fail
  refine (HV.out _).mono ?_
  rintro e w1 ⟨rfl, rfl⟩
  go_wp2_with fail
  refine HF.out.mono ?_
  rintro e w1 ⟨rfl, b1⟩
  have T2 := Lib.hid (T1.out.below b1)
  obtain ⟨c0, c1, c2, c3, c4, c5⟩ := T2.out.cells
  obtain ⟨n0, n1, n2⟩ := T2.out.names hn
  rw [HRE.out] at n1
  have hfz := T2.out.thawl (n * 3 + 1)
  have O1 := Lib.hid ((Only.of_below b1 (inO b hb (.slice (some ⟨g, 0, none⟩) l.length cap) fv)).setCell1 (g := g) (.inl (.inr (.inr (.inl rfl)))) (n * 3 + 1) (.int .i64 (r + 1)))
  have T3 := Lib.hid (T2.out.setRefs hn (r + 1))
  clear HF HN HV T1 T2 b1 c0 c1 c2 c4 c5 n0 n2
  go_wp2_with fail
  go_ret2
  exact HE.out _ O1.out T3.out
end
end Go.Proofs.Ythngkimncdpekaa
