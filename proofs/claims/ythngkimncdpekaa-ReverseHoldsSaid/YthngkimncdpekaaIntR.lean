/- Release. -/
import Derived.Test.YthngkimncdpekaaIntY
import Derived.Test.YthngkimncdpekaaInsert
namespace Go.Proofs.Ythngkimncdpekaa
set_option linter.unusedVariables false
open Go.RowKit Go.Maps Go.Sort

/-- What Release leaves. -/
def RelP (w : World) (b : Nat) (O : Nat → Prop) (most seed : Int) (r : Nms × Bool × Int) (e : Ending) (w' : World) : Prop :=
  ∃ O', e = .returned (.tuple #[.bool r.2.1, .int .i64 r.2.2]) ∧ Tab w' b O' most seed r.1 ∧ Only O w w' ∧ (∀ g, O' g → O g ∨ w.heap.size ≤ g)
theorem RelP.same {w w' : World} {b : Nat} {O : Nat → Prop} {most seed e : Int} {x : Bool} {l : Nms} (t : Tab w' b O most seed l) (ho : Only O w w') : RelP w b O most seed (l, x, e) (.returned (.tuple #[.bool x, .int .i64 e])) w' :=
  ⟨O, rfl, t, ho, fun _ h => .inl h⟩
section
variable {w : World} {b : Nat} {O : Nat → Prop} {most seed R : Int} {l : Nms} (t : Tab w b O most seed l) (hm : 1 ≤ most) (hw : Wf most R l)
include t hm hw
theorem rel_no (n : Int) (h : hasM l n = false) :
    Calls Try.prog 59 #[.pointer (some ⟨b, 0, none⟩), .int .i64 n] w (RelP w b O most seed (relM l n)) := by
  have hM : relM l n = (l, false, 9) := by unfold relM; rw [if_neg (by rw [h]; decide)]
  rw [hM]
  have HA := Lib.hid (at_no t hm hw n h)
  have T := Lib.hid t
  clear t hw h hM
  go_enter Try.func59, Try.ntmps59
  go_wp2_with (go_at_call 89; refine HA.out.mono ?_; rintro e w1 ⟨rfl, rfl⟩)
  go_ret2
  exact RelP.same T.out (Only.refl _ _)
set_option maxHeartbeats 1000000 in
theorem rel_more (n : Nat) (h : liveB l n = true) (h1 : 1 < (nmAt l n).2) (hR : R ≤ 2147483647) :
    Calls Try.prog 59 #[.pointer (some ⟨b, 0, none⟩), .int .i64 n] w (RelP w b O most seed (relM l n)) := by
  have hM : relM l n = (l.set n ((nmAt l n).1, (nmAt l n).2 - 1), false, 0) := by
    unfold relM hasM
    rw [Int.toNat_natCast, if_pos (by rw [h]; simp), if_pos h1]
  rw [hM]
  have hn := live_lt h
  have hr := hw.refs n
  have hlow := t.low
  obtain ⟨hb, hc, lv, fv, hd, nx, ch, t1, t2, t3, t4⟩ := t
  obtain ⟨g, cap, rfl, hg, _, _⟩ := t1.lform (by omega)
  have hx : liveX ((nmAt l n).1, (nmAt l n).2 - 1) = true := by unfold liveX; simp; omega
  have hfree : freeL (l.set n ((nmAt l n).1, (nmAt l n).2 - 1)) = freeL l := by
    rw [freeL_live hn h, freeL_live (l := l.set n _) (n := n) (by rw [List.length_set]; exact hn) (by rw [liveB_set hn, if_pos rfl]; exact hx), freeBelow_set _ hn, freeAbove_set _ hn]
  have hmany : liveN (l.set n ((nmAt l n).1, (nmAt l n).2 - 1)) = liveN l := by
    have := liveN_set hn ((nmAt l n).1, (nmAt l n).2 - 1)
    rw [if_pos h, if_pos hx] at this
    omega
  have hch : Chains (hsN seed) hd nx (l.set n ((nmAt l n).1, (nmAt l n).2 - 1)) ch (fun _ => True) := t2.same (by rw [List.length_set]) (fun m => by
      rw [liveB_set hn]
      split
      · rename_i e; subst e; rw [h]; exact hx
      · rfl) (fun m _ => by
      rw [nmAt_set hn]
      split
      · rename_i e; subst e; rfl
      · rfl)
  have HE : Hid (∀ w', Only (inO b hb (.slice (some ⟨g, 0, none⟩) l.length cap) fv) w w' → Tb w' b most seed hb hc (.slice (some ⟨g, 0, none⟩) (l.set n ((nmAt l n).1, (nmAt l n).2 - 1)).length cap) fv hd nx (l.set n ((nmAt l n).1, (nmAt l n).2 - 1)) (freeI l) (liveN l) → RelP w b O most seed (l.set n ((nmAt l n).1, (nmAt l n).2 - 1), false, 0) (.returned (.tuple #[.bool false, .int .i64 0])) w') := by
    intro w' ho ht
    rw [List.length_set] at ht
    refine ⟨O, rfl, ⟨hb, hc, .slice (some ⟨g, 0, none⟩) l.length cap, fv, hd, nx, ch, ?_, hch, t3, t4⟩, ho.more (fun k hk => .inl ((t3 k).2 hk)), fun _ h => .inl h⟩
    unfold freeI
    rw [hfree, hmany]
    exact ht
  have HA := Lib.hid (at_yes t1 hm n h)
  obtain ⟨c0, c1, c2, c3, c4, c5⟩ := t1.cells
  obtain ⟨n0, n1, n2⟩ := t1.names hn
  have hfz := t1.thawl (n * 3 + 1)
  have O1 := Lib.hid ((Only.refl (inO b hb (.slice (some ⟨g, 0, none⟩) l.length cap) fv) w).setCell1 (g := g) (.inl (.inr (.inr (.inl rfl)))) (n * 3 + 1) (.int .i64 ((nmAt l n).2 - 1)))
  have T3 := Lib.hid (t1.setRefs hn ((nmAt l n).2 - 1))
  clear t1 t2 t3 hM hw h hfree hmany hch hx c0 c1 c2 c4 c5 n0 n2
  generalize (nmAt l n).2 = r at *
  have hr2 : (0 : Int) < r - 1 := by omega
  go_enter Try.func59, Try.ntmps59
  go_wp2_with (go_at_call 89; refine HA.out.mono ?_; rintro e w1 ⟨rfl, rfl⟩)
  go_ret2
  exact HE.out _ O1.out T3.out
end
/-- The link at the end of a part of a chain. -/
def LinkAt (hb i g : Nat) (pre : List Nat) (pb po : Nat) : Prop := (pre = [] ∧ pb = hb ∧ po = i) ∨ ∃ pre' p, pre = pre' ++ [p] ∧ pb = g ∧ po = p * 3 + 2
section
variable {w : World} {b : Nat} {most seed : Int} {hb hc g cap : Nat} {fv : Value} {hd nx : List Int} {l : Nms} {fr : List Int} {many : Int}
/-- What stands at the link. -/
theorem LinkAt.cell (t : Tb w b most seed hb hc (.slice (some ⟨g, 0, none⟩) l.length cap) fv hd nx l fr many) {i pb po : Nat} {pre rest : List Nat} {m : Nat} (h : LinkAt hb i g pre pb po) (hi : i < hd.length) (hok : chainOk nx (hd.getD i 0) (pre ++ m :: rest)) :
    w.cell? ⟨pb, po, none⟩ = some (.int .i64 (m : Int)) ∧ w.frozen? ⟨pb, po, none⟩ = false ∧ pb ≠ b := by
  rcases h with ⟨rfl, rfl, rfl⟩ | ⟨pre', p, rfl, rfl, rfl⟩
  · have h1 := t.head hi
    rw [List.nil_append] at hok
    rw [hok.1] at h1
    exact ⟨h1, (t.thaw po).2, fun e => t.bh e.symm⟩
  · rw [List.append_assoc, List.singleton_append] at hok
    obtain ⟨h1, h2⟩ := chainOk_split hok
    rw [t.len] at h2
    obtain ⟨_, _, h3⟩ := t.names h2
    rw [h1.1] at h3
    exact ⟨h3, t.thawl _, fun e => t.bl (by rw [e]; rfl)⟩
/-- The link is turned. -/
theorem LinkAt.turn (t : Tb w b most seed hb hc (.slice (some ⟨g, 0, none⟩) l.length cap) fv hd nx l fr many) {i pb po : Nat} {pre rest : List Nat} (h : LinkAt hb i g pre pb po) (hok : chainOk nx (hd.getD i 0) (pre ++ rest)) (v : Int) :
    ∃ hd' nx', Tb (w.setCell ⟨pb, po, none⟩ (.int .i64 v)) b most seed hb hc (.slice (some ⟨g, 0, none⟩) l.length cap) fv hd' nx' l fr many ∧ hd'.length = hd.length ∧ ((pre = [] ∧ hd' = hd.set i v ∧ nx' = nx) ∨ ∃ c0 p, pre = c0 ++ [p] ∧ hd' = hd ∧ nx' = nx.set p v) := by
  rcases h with ⟨rfl, rfl, rfl⟩ | ⟨pre', p, rfl, rfl, rfl⟩
  · exact ⟨_, _, t.setHead po v, by simp, .inl ⟨rfl, rfl, rfl⟩⟩
  · rw [List.append_assoc, List.singleton_append] at hok
    obtain ⟨h1, h2⟩ := chainOk_split hok
    rw [t.len] at h2
    exact ⟨_, _, t.setNext h2 v, rfl, .inr ⟨pre', p, rfl, rfl, rfl⟩⟩
end
end Go.Proofs.Ythngkimncdpekaa
