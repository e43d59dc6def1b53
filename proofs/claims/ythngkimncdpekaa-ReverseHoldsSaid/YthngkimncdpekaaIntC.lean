/- Copy. -/
import Derived.Test.YthngkimncdpekaaIntN
import Derived.Deep.RegionHeld3
namespace Go.Proofs.Ythngkimncdpekaa
set_option linter.unusedVariables false
open Go.RowKit Go.Maps Go.Sort

theorem clone_names {w : World} (v : Value) (l : Nms) (nx : List Int) (h : w.ownsRow 0 152 3 v l.length (nmCells l nx)) (hlow : l.length ≤ 100000) :
    Calls Try.prog 97 #[v] w fun e w' => ∃ v', e = .returned v' ∧ w'.ownsRow w.heap.size 152 3 v' l.length (nmCells l nx) ∧ Below w.heap.size w w' := by
  have hh := h
  rcases h.2 with ⟨rfl, h0⟩ | ⟨g, cap, cur, rfl, hbg, hg, hn, hcap, hs, ht⟩
  · refine (AnyE.slices_Clone_nil clnLays 0 0 w).mono ?_
    rintro e w' ⟨rfl, rfl⟩
    have hx : nmCells l nx = [] := by
      have := h.1
      rw [h0] at this
      exact List.eq_nil_of_length_eq_zero (by simpa using this)
    rw [h0, hx]
    exact ⟨_, rfl, World.ownsRow_nil _ _ _ _, Below.refl _ _⟩
  · obtain ⟨i0, hi, hz0, hz1, hz2⟩ := info_parts info_name
    refine (AnyE.slices_Clone clnLays i0 (.agg #[.string ⟨#[]⟩, .int .i64 0, .int .i64 0]) 3 32 hi hz0 hz1 hz2 rfl (by decide) (fun w => by kernel_rfl) g 0 l.length cap (nmCells l nx) w h.1 (by unfold maxLen; omega) (by omega) (fun j u hj => ?_) (fun u hu => nmCells_one u hu)).mono ?_
    · rw [Nat.zero_add]
      exact (hh.cellAt j (by have := (List.getElem?_eq_some_iff.1 hj).1; rw [h.1] at this; exact this)).trans hj
    · rintro e w' ⟨v', h1, h2, _, h3⟩
      exact ⟨v', h1, h2, h3⟩
theorem owns_form {w : World} {B : Nat} {e : TypeId} {k : Nat} {v : Value} {n : Nat} {xs : List Value} (h : w.ownsRow B e k v n xs) : ∃ p cap, v = .slice p n cap := by
  rcases h.2 with ⟨rfl, h0⟩ | ⟨g, cap, cur, rfl, _⟩
  · exact ⟨none, 0, by rw [h0]⟩
  · exact ⟨_, _, rfl⟩
theorem Tb.headReads {w : World} {b : Nat} {most seed : Int} {hb hc : Nat} {lv fv : Value} {hd nx : List Int} {l : Nms} {fr : List Int} {many : Int} (t : Tb w b most seed hb hc lv fv hd nx l fr many) : Reads w (.slice (some ⟨hb, 0, none⟩) hd.length hc) (i64s hd) :=
  Reads.of_own (base := 0) (e := 3) (by rw [List.length_map]; exact t.heads) (by rw [List.length_map]; have := t.big; omega)
def CopyP (w : World) (most seed : Int) (l : Nms) (e : Ending) (w' : World) : Prop := ∃ b O, e = .returned (.pointer (some ⟨b, 0, none⟩)) ∧ Tab w' b O most seed l ∧ (∀ g, O g → w.heap.size ≤ g) ∧ Below w.heap.size w w'
theorem copyTb {w w5 w6 w7 : World} {most seed : Int} {hd nx : List Int} {l : Nms} {ch : Nat → List Nat} {p5 p6 p7 : Option Addr} {k5 k6 k7 : Nat} (s0 : 0 ≤ seed) (s1 : seed ≤ 18446744073709551615) (hpos : 0 < hd.length) (hbig : hd.length ≤ 140000) (hlow : l.length ≤ 100000) (hlen : nx.length = l.length) (hch : Chains (hsN seed) hd nx l ch (fun _ => True))
    (b5 : Below w.heap.size w w5) (b6 : Below w5.heap.size w5 w6) (b7 : Below w6.heap.size w6 w7)
    (o5 : w5.ownsRow w.heap.size 3 1 (.slice p5 hd.length k5) hd.length (i64s hd)) (o6 : w6.ownsRow w5.heap.size 152 3 (.slice p6 l.length k6) l.length (nmCells l nx)) (o7 : w7.ownsRow w6.heap.size 3 1 (.slice p7 (freeI l).length k7) (freeI l).length (i64s (freeI l))) :
    CopyP w most seed l (.returned (.pointer (some ⟨w7.heap.size, 0, none⟩))) (w7.alloc (.cells #[.int .i64 most, .int .u64 seed, .slice p5 hd.length k5, .slice p6 l.length k6, .slice p7 (freeL l).length k7, .int .i64 (liveN l)] 145)) := by
  have z5 := b5.size
  have z6 := b6.size
  have z7 := b7.size
  have hfl : (freeI l).length = (freeL l).length := by unfold freeI; simp
  have hfle := freeL_len l
  obtain ⟨g5, c5, e5, _, _⟩ := o5.form hpos
  injection e5 with e5 _ _
  subst e5
  have q5 := o5.lt g5 rfl
  have q6 := fun g h => o6.lt g h
  have q7 := fun g h => o7.lt g h
  have B8 : Below w7.heap.size w7 (w7.alloc (.cells #[.int .i64 most, .int .u64 seed, .slice (some ⟨g5, 0, none⟩) hd.length k5, .slice p6 l.length k6, .slice p7 (freeL l).length k7, .int .i64 (liveN l)] 145)) := (Below.refl _ _).alloc (Nat.le_refl _) _
  have hO7 : (w7.alloc (.cells #[.int .i64 most, .int .u64 seed, .slice (some ⟨g5, 0, none⟩) hd.length k5, .slice p6 l.length k6, .slice p7 (freeL l).length k7, .int .i64 (liveN l)] 145)).ownsRow 0 3 1 (.slice p7 (freeI l).length k7) (i64s (freeI l)).length (i64s (freeI l)) := by
    have hll : (i64s (freeI l)).length = (freeI l).length := by unfold i64s; rw [List.length_map]
    rw [hll]
    exact ownsRow_low (ownsRow_below o7 B8) (Nat.zero_le _)
  refine ⟨w7.heap.size, inO w7.heap.size g5 (.slice p6 l.length k6) (.slice p7 (freeI l).length k7), rfl, ⟨g5, k5, _, _, hd, nx, ch, ⟨?_, ?_, ?_, Reads.of_own hO7 (by rw [List.length_map]; omega), hlen, hpos, by omega, hlow, by omega, fun h => by have := q6 _ h; omega, fun h => by have := q6 _ h; omega, fun h => by have := q7 _ h; omega, fun h => by have := q7 _ h; omega, fun g h h2 => by have := q6 _ h; have := q7 _ h2; omega, s0, s1, fun g h => by have := q7 _ h; have := B8.size; omega⟩, hch, fun _ => Iff.rfl, hbig⟩, ?_, ?_⟩
  · rw [hfl]
    exact Blk.new _ _ _
  · exact ownsRow_low (ownsRow_below (ownsRow_below (ownsRow_below o5 b6) b7) B8) (Nat.zero_le _)
  · exact ownsRow_low (ownsRow_below (ownsRow_below o6 b7) B8) (Nat.zero_le _)
  · rintro g (rfl | rfl | h | h)
    · omega
    · exact q5.1
    · have := q6 _ h; omega
    · have := q7 _ h; omega
  · exact ((b5.trans (b6.mono z5)).trans (b7.mono (by omega))).trans (B8.mono (by omega))
set_option maxHeartbeats 2000000 in
set_option maxRecDepth 100000 in
theorem copy_any {w : World} {b : Nat} {O : Nat → Prop} {most seed : Int} {l : Nms} (t : Tab w b O most seed l) (hm : 1 ≤ most) :
    Calls Try.prog 71 #[.pointer (some ⟨b, 0, none⟩)] w (CopyP w most seed l) := by
  have HN := Lib.hid (none_no t.box hm)
  have hlow := t.low
  obtain ⟨hb, hc, lv, fv, hd, nx, ch, t1, t2, t3, t4⟩ := t
  have t0 := t1.drew
  have HFL : Hid ((freeI l).length ≤ 100000) := by unfold Hid freeI; rw [List.length_map]; have := freeL_len l; omega
  have HC1 := Lib.hid (clone_reads _ hd w.drew t0.headReads (by have := t1.big; omega))
  have HC2 : Hid (∀ w', Tb w' b most seed hb hc lv fv hd nx l (freeI l) (liveN l) → Calls Try.prog 97 #[lv] w' fun e w'' => ∃ v', e = .returned v' ∧ w''.ownsRow w'.heap.size 152 3 v' l.length (nmCells l nx) ∧ Below w'.heap.size w' w'') := fun w' t => clone_names lv l nx t.list hlow
  have HC3 : Hid (∀ w', Tb w' b most seed hb hc lv fv hd nx l (freeI l) (liveN l) → Calls Try.prog 60 #[fv] w' fun e w'' => ∃ v', e = .returned v' ∧ w''.ownsRow w'.heap.size 3 1 v' (freeI l).length (i64s (freeI l)) ∧ Below w'.heap.size w' w'') := fun w' t => clone_reads fv _ w' t.free (by have := HFL.out; omega)
  obtain ⟨c0, c1, c2, c3, c4, c5⟩ := t1.cells
  have T0 := Lib.hid t0
  have T1 := Lib.hid t1
  have HCH := Lib.hid t2
  clear t0 t1 t2 t3
  go_enter Try.func71, Try.ntmps71
  go_wp2_with fail
  refine HN.out.mono ?_
  rintro e w1 ⟨rfl, rfl⟩
  clear HN
  go_wp2_with fail
  go_region_held3 (fun w' => w'.cell? ⟨b, 0, none⟩ = some (.int .i64 most) ∧ w'.cell? ⟨b, 1, none⟩ = some (.int .u64 seed) ∧ w'.cell? ⟨b, 2, none⟩ = some (.slice (some ⟨hb, 0, none⟩) hd.length hc) ∧ w'.cell? ⟨b, 3, none⟩ = some lv ∧ w'.cell? ⟨b, 4, none⟩ = some fv ∧ w'.cell? ⟨b, 5, none⟩ = some (.int .i64 (liveN l))) (go_keep) (first
    | (go_at_call_of 60 (Value.slice (some ⟨hb, 0, none⟩) hd.length hc); refine HC1.out.mono ?_; rintro e w5 ⟨v5, rfl, o5, b5⟩; obtain ⟨p5, k5, rfl⟩ := owns_form o5; have T5 := Lib.hid (T0.out.below b5); obtain ⟨kk0, kk1, kk2, kk3, kk4, kk5⟩ := T5.out.cells)
    | (go_at_call 97; refine (HC2.out _ T5.out).mono ?_; rintro e w6 ⟨v6, rfl, o6, b6⟩; obtain ⟨p6, k6, rfl⟩ := owns_form o6; have T6 := Lib.hid (T5.out.below b6); obtain ⟨j0, j1, j2, j3, j4, j5⟩ := T6.out.cells)
    | (go_at_call 60; refine (HC3.out _ T6.out).mono ?_; rintro e w7 ⟨v7, rfl, o7, b7⟩; obtain ⟨p7, k7, rfl⟩ := owns_form o7; have T7 := Lib.hid (T6.out.below b7); obtain ⟨i0, i1, i2, i3, i4, i5⟩ := T7.out.cells))
  all_goals
    have HE := Lib.hid (copyTb (most := most) T1.out.seed0 T1.out.seed1 T1.out.pos t4 hlow T1.out.len HCH.out ((Below.refl w.heap.size w).drew.trans b5) b6 b7 o5 o6 o7)
    clear o5 o6 o7 b5 b6 b7 T5 T6 T7 T0 T1 HC1 HC2 HC3 HCH kk0 kk1 kk2 kk3 kk4 kk5 j0 j1 j2 j3 j4 j5 i0 i1 i2 i3 i4 i5
    go_wp2_with fail
    go_ret
    exact HE.out
end Go.Proofs.Ythngkimncdpekaa
