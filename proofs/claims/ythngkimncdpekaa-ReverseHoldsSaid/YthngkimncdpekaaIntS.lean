/- Release of the last reference. -/
import Derived.Test.YthngkimncdpekaaIntR
import Derived.Test.YthngkimncdpekaaIntV
namespace Go.Proofs.Ythngkimncdpekaa
set_option linter.unusedVariables false
open Go.RowKit Go.Maps Go.Sort

theorem countP_below (l : Nms) (n : Nat) (hn : liveB l n = true) : (freeI l).countP (· < (n : Int)) = (freeBelow l n).length := by
  have h := live_lt hn
  unfold freeI
  rw [freeL_live h hn, List.map_append, List.countP_append]
  have e1 : ((freeBelow l n).map (fun n : Nat => (n : Int))).countP (· < (n : Int)) = (freeBelow l n).length := by
    rw [List.countP_eq_length.2, List.length_map]
    intro x hx
    obtain ⟨m, hm, rfl⟩ := List.mem_map.1 hx
    have := freeBelow_lt hm
    simp; exact this
  have e2 : ((freeAbove l n).map (fun n : Nat => (n : Int))).countP (· < (n : Int)) = 0 := by
    rw [List.countP_eq_zero]
    intro x hx
    obtain ⟨m, hm, rfl⟩ := List.mem_map.1 hx
    have := freeAbove_gt hm
    simp; omega
  rw [e1, e2]; rfl
theorem free_insert (l : Nms) (n : Nat) (hn : liveB l n = true) : (freeI l).take (freeBelow l n).length ++ (n : Int) :: (freeI l).drop (freeBelow l n).length = freeI (l.set n ([], 0)) := by
  have h := live_lt hn
  unfold freeI
  rw [freeL_live h hn, freeL_give hn, List.map_append, List.take_left' (by simp), List.drop_left' (by simp), List.map_append, List.map_cons]
theorem freeI_sorted (l : Nms) : (freeI l).Pairwise (· ≤ ·) := by
  unfold freeI
  rw [List.pairwise_map]
  exact (freeL_sorted l).imp fun h => by omega

theorem Tb.ltO {w : World} {b : Nat} {most seed : Int} {hb hc : Nat} {lv fv : Value} {hd nx : List Int} {l : Nms} {fr : List Int} {many : Int} (t : Tb w b most seed hb hc lv fv hd nx l fr many) {k : Nat} (hk : inO b hb lv fv k) : k < w.heap.size := by
  rcases hk with rfl | rfl | h | h
  · exact t.box.lt
  · exact ownsRow_lt t.heads rfl
  · exact ownsRow_lt t.list h
  · exact t.fl k h
set_option maxHeartbeats 4000000 in
set_option maxRecDepth 100000 in
theorem rel_last {w : World} {b : Nat} {O : Nat → Prop} {most seed R : Int} {l : Nms} (t : Tab w b O most seed l) (hm : 1 ≤ most) (hw : Wf most R l) (n : Nat) (h : liveB l n = true) (h1 : ¬ 1 < (nmAt l n).2) :
    Calls Try.prog 59 #[.pointer (some ⟨b, 0, none⟩), .int .i64 n] w (RelP w b O most seed (relM l n)) := by
  have hM : relM l n = (l.set n ([], 0), true, 0) := by
    unfold relM hasM
    rw [Int.toNat_natCast, if_pos (by rw [h]; simp), if_neg h1]
  rw [hM]
  have hn := live_lt h
  have hpos : 0 < (nmAt l n).2 := by unfold liveB at h; simpa using h
  have hr1 : (nmAt l n).2 = 1 := by omega
  have hlow := t.low
  have htx : (nmAt l n).1.length ≤ 64 := by
    have := hw.text n h
    unfold validB at this
    rw [Bool.and_eq_true, decide_eq_true_eq, decide_eq_true_eq] at this
    exact this.2
  obtain ⟨hb, hc, lv, fv, hd, nx, ch, t1, t2, t3, t4⟩ := t
  obtain ⟨g, cap, rfl, hg, _, _⟩ := t1.lform (by omega)
  have HA := Lib.hid (at_yes t1 hm n h)
  obtain ⟨c0, c1, c2, c3, c4, c5⟩ := t1.cells
  obtain ⟨n0, n1, n2⟩ := t1.names hn
  rw [hr1] at n1
  have hfz := t1.thawl (n * 3 + 1)
  have O1 := Lib.hid ((Only.refl (inO b hb (.slice (some ⟨g, 0, none⟩) l.length cap) fv) w).setCell1 (g := g) (.inl (.inr (.inr (.inl rfl)))) (n * 3 + 1) (.int .i64 0))
  have t5 := t1.setRefs hn 0
  rw [List.length_set] at t5
  have T1 := Lib.hid t1
  have T2 := Lib.hid t2
  have T3 := Lib.hid t3
  have T5 := Lib.hid t5
  have HL := Lib.hid h
  clear t1 t2 t3 t5 hM hw h h1 hr1 hpos c0 c1 c2 c4 c5 n2
  go_enter Try.func59, Try.ntmps59
  go_wp2_with fail
  refine HA.out.mono ?_
  rintro e w1 ⟨rfl, rfl⟩
  go_wp2_with fail
  generalize w.setCell ⟨g, n * 3 + 1, none⟩ (.int .i64 0) = W1 at *
  obtain ⟨i, hie⟩ : ∃ i, hsN seed (nmAt l n).1 % hd.length = i := ⟨_, rfl⟩
  have hi : i < hd.length := hie ▸ hs_lt T1.out.pos seed (nmAt l n).1
  obtain ⟨q1, q2, hpl⟩ := T2.out.place HL.out
  rw [hie] at hpl
  have HPL := Lib.hid hpl
  have HOK : Hid (chainOk nx (hd.getD i 0) (ch i)) := T2.out.ok i hi
  have HND : Hid (ch i).Nodup := T2.out.nodup i hi
  have HIE := Lib.hid hie
  have HH := head_any T5.out ⟨(nmAt l n).1.toArray⟩ (by show (nmAt l n).1.toArray.size ≤ _; simp; omega)
  simp only [hie] at HH
  have HH := Lib.hid HH
  clear hpl hie n0 n1 c3 hfz HA htx
  refine HH.out.mono ?_
  rintro e w2 ⟨rfl, b2⟩
  have T6 := Lib.hid (T5.out.below b2)
  have O6 := Lib.hid (O1.out.trans (Only.of_below b2 (fun _ => False)) (fun _ h => h.elim))
  clear HH b2 T5 O1
  go_wp2_with fail
  go_loopg [8] (ch i).length (fun r v wr => ∃ (pre rest : List Nat) (pb po : Nat), r = rest.length ∧ v = .pointer (some ⟨pb, po, none⟩) ∧ ch i = pre ++ rest ∧ n ∈ rest ∧ LinkAt hb i g pre pb po ∧ Tb wr b most seed hb hc (.slice (some ⟨g, 0, none⟩) l.length cap) fv hd nx (l.set n ((nmAt l n).1, 0)) (freeI l) (liveN l) ∧ Only (inO b hb (.slice (some ⟨g, 0, none⟩) l.length cap) fv) w wr)
  case atStart => exact ⟨[], ch i, hb, i, rfl, rfl, rfl, by rw [HPL.out]; simp, .inl ⟨rfl, rfl, rfl⟩, T6.out, O6.out⟩
  case round =>
    clear T6 O6
    obtain ⟨pre, rest, pb, po, hr, rfl, hch, hmem, hlink, ht, ho⟩ := hrel
    cases rest with
    | nil => cases hmem
    | cons m rest =>
      have hok := HOK.out
      rw [hch] at hok
      have hl2 : (l.set n ((nmAt l n).1, (0 : Int))).length = l.length := List.length_set ..
      have ht' := ht
      rw [← hl2] at ht'
      obtain ⟨k0, k1, k2⟩ := hlink.cell ht' hi hok
      have hmn : m < l.length := by have := chainOk_lt hok m (by simp); rwa [T1.out.len] at this
      obtain ⟨c0, c1, c2, c3, c4, c5⟩ := ht.cells
      have HR := Lib.hid hr
      have HCH := Lib.hid hch
      have HLK := Lib.hid hlink
      have HT := Lib.hid ht
      have HO := Lib.hid ho
      have HM := Lib.hid hmem
      clear hr hch hlink ht ht' ho hmem hok hl2
      by_cases hmm : m = n
      · subst m
        obtain ⟨n0, n1, n2⟩ := (show Tb wr b most seed hb hc (.slice (some ⟨g, 0, none⟩) (l.set n ((nmAt l n).1, (0 : Int))).length cap) fv hd nx (l.set n ((nmAt l n).1, 0)) (freeI l) (liveN l) by rw [List.length_set]; exact HT.out).names (i := n) (by rw [List.length_set]; exact hn)
        obtain ⟨Y, hY⟩ : ∃ Y, nx.getD n 0 = Y := ⟨_, rfl⟩
        rw [hY] at n2
        have HY := Lib.hid hY
        have hturn := HLK.out.turn (show Tb wr b most seed hb hc (.slice (some ⟨g, 0, none⟩) (l.set n ((nmAt l n).1, (0 : Int))).length cap) fv hd nx (l.set n ((nmAt l n).1, 0)) (freeI l) (liveN l) by rw [List.length_set]; exact HT.out) (rest := n :: rest) (by rw [← HCH.out]; exact HOK.out) Y
        rw [List.length_set] at hturn
        have HTU := Lib.hid hturn
        clear hY hturn n0 n1 c0 c1 c2 c3 c4 c5
        go_upto_region 11 with (fail)
        obtain ⟨hd', nx', t6, hlen6, hlk⟩ := HTU.out
        have hpb : inO b hb (.slice (some ⟨g, 0, none⟩) l.length cap) fv pb := by
          rcases HLK.out with ⟨_, h, _⟩ | ⟨_, _, _, h, _⟩
          · exact .inr (.inl h)
          · rw [h]; exact .inr (.inr (.inl rfl))
        have o6 := HO.out.setCell1 (.inl hpb) po (.int .i64 Y)
        generalize wr.setCell ⟨pb, po, none⟩ (.int .i64 Y) = W6 at *
        rw [← HY.out] at hlk
        have hchain := T2.out.out HL.out (c1 := pre) (c2 := rest) (by rw [HIE.out]; exact HCH.out) (by rw [HIE.out]; exact hlk) 0
        have HLEN := Lib.hid hlen6
        have HC7 := Lib.hid hchain
        have t6' : Tb W6 b most seed hb hc (.slice (some ⟨g, 0, none⟩) (l.set n ((nmAt l n).1, (0 : Int))).length cap) fv hd' nx' (l.set n ((nmAt l n).1, 0)) (freeI l) (liveN l) := by rw [List.length_set]; exact t6
        have hn1 : n < (l.set n ((nmAt l n).1, (0 : Int))).length := by rw [List.length_set]; exact hn
        have t7 := t6'.setName hn1 [] 0 0
        rw [List.set_set, List.length_set] at t7
        obtain ⟨m0, m1, m2⟩ := t6'.names hn1
        have f0 := t6'.thawl (n * 3)
        have f1 := t6'.thawl (n * 3 + 1)
        have f2 := t6'.thawl (n * 3 + 2)
        have hg6 : inO b hb (.slice (some ⟨g, 0, none⟩) l.length cap) fv g := .inr (.inr (.inl rfl))
        have o7 := ((o6.setCell1 (.inl hg6) (n * 3) (.string ⟨#[]⟩)).setCell1 (.inl hg6) (n * 3 + 1) (.int .i64 0)).setCell1 (.inl hg6) (n * 3 + 2) (.int .i64 0)
        have T7 : Hid (Tb (((W6.setCell ⟨g, n * 3, none⟩ (.string ⟨#[]⟩)).setCell ⟨g, n * 3 + 1, none⟩ (.int .i64 0)).setCell ⟨g, n * 3 + 2, none⟩ (.int .i64 0)) b most seed hb hc (.slice (some ⟨g, 0, none⟩) l.length cap) fv hd' (nx'.set n 0) (l.set n ([], 0)) (freeI l) (liveN l)) := t7
        have O7 := Lib.hid o7
        clear t6 t6' t7 o6 o7 hlk hlen6 hchain HTU HT HO n2 k0 k1 k2 hpb
        go_upto_region 12 with (fail)
        generalize ((W6.setCell ⟨g, n * 3, none⟩ (.string ⟨#[]⟩)).setCell ⟨g, n * 3 + 1, none⟩ (.int .i64 0)).setCell ⟨g, n * 3 + 2, none⟩ (.int .i64 0) = W7 at *
        clear m0 m1 m2 f0 f1 f2
        obtain ⟨c0, c1, c2, c3, c4, c5⟩ := T7.out.cells
        have f5 := (T7.out.thaw 5).1
        have hlv1 := liveN_le l
        have T8 := Lib.hid (T7.out.setMany ((liveN l : Int) - 1))
        have O8 := Lib.hid (O7.out.setCell1 (g := b) (.inl (.inl rfl)) 5 (.int .i64 ((liveN l : Int) - 1)))
        have HFL : Hid ((freeI l).length ≤ 100000) := by unfold Hid freeI; rw [List.length_map]; have := freeL_len l; omega
        clear T7 O7
        go_upto_region 13 with (fail)
        generalize W7.setCell ⟨b, 5, none⟩ (.int .i64 ((liveN l : Int) - 1)) = W8 at *
        clear c0 c1 c2 c3 c4 c5 f5
        obtain ⟨c0, c1, c2, c3, c4, c5⟩ := T8.out.cells
        have HSE := search_reads fv (freeI l) n W8 T8.out.free (by have := HFL.out; omega) (freeI_sorted l)
        rw [countP_below l n HL.out] at HSE
        have HSE := Lib.hid HSE
        clear c0 c1 c2 c3 c5
        go_wp2_with fail
        refine HSE.out.mono ?_
        rintro e w9 ⟨⟨bb, rfl⟩, b9⟩
        have T9 := Lib.hid (T8.out.below b9)
        have O9 := Lib.hid (O8.out.trans (Only.of_below b9 (fun _ => False)) (fun _ h => h.elim))
        have HLT : Hid (∀ k, inO b hb (.slice (some ⟨g, 0, none⟩) l.length cap) fv k → k < w9.heap.size) := fun k hk => T9.out.ltO hk
        have HCL := Lib.hid (clone_reads fv (freeI l) w9 T9.out.free (by have := HFL.out; omega))
        clear HSE T8 O8 b9 c4
        obtain ⟨_, _, _, _, c4, _⟩ := T9.out.cells
        go_wp2_with fail
        refine HCL.out.mono ?_
        rintro e w10 ⟨v10, rfl, own10, b10⟩
        have T10 := Lib.hid (T9.out.below b10)
        have O10 := Lib.hid (O9.out.trans (Only.of_below b10 (fun _ => False)) (fun _ h => h.elim))
        have hs9 : w.heap.size ≤ w9.heap.size := O9.out.size
        have hs10 := b10.size
        have OWN10 := Lib.hid own10
        clear HCL T9 O9 b10 own10 c4
        go_wp2_with fail
        have hi9 : (freeBelow l n).length ≤ (freeI l).length := by rw [← countP_below l n HL.out]; exact List.countP_le_length
        have T11 := Lib.hid (T10.out.below ((Below.refl _ _).alloc (Nat.le_refl _) (.cells #[.int .i64 (n : Int)] 3)))
        have O11 := Lib.hid (O10.out.alloc (.cells #[.int .i64 (n : Int)] 3))
        refine (insert_any w9.heap.size v10 (freeI l) (freeBelow l n).length hi9 n w10.heap.size _ (OWN10.out.alloc _) (by have := HFL.out; omega) (Blk.new _ _ _) (fun e => by have := ownsRow_lt OWN10.out e; omega) (by simp; omega)).mono ?_
        rintro e w12 ⟨v12, rfl, own12, gr12, hat12⟩
        rw [free_insert l n HL.out] at own12
        have hlen12 : (freeI (l.set n ([], 0))).length = (freeI l).length + 1 := by
          rw [← free_insert l n HL.out, List.length_append, List.length_cons, List.length_take, List.length_drop]; omega
        rw [← hlen12] at own12
        obtain ⟨N, hN⟩ : ∃ N, (freeI (l.set n ([], 0))).length = N := ⟨_, rfl⟩
        rw [hN] at own12 hlen12
        have HN := Lib.hid hN
        clear hN
        obtain ⟨g12, cap12, he12, hge12, hlt12⟩ := own12.form (by omega)
        rw [he12]
        rw [he12] at own12 hat12
        have hS : Only (fun k => v10.ownBlock = some k) (w10.alloc (.cells #[.int .i64 (n : Int)] 3)) w12 := ⟨gr12.os, gr12.tape, gr12.output, gr12.size, fun k hk hnn => gr12.block k hk (fun e => hnn e.symm)⟩
        have hnot : ∀ k, inO b hb (.slice (some ⟨g, 0, none⟩) l.length cap) fv k → ¬ v10.ownBlock = some k := fun k hk e => by
          have h1 := (OWN10.out.lt k e).1
          have h2 := HLT.out k hk
          omega
        have T12 := T11.out.only hS hnot
        have hlt9 : w.heap.size ≤ g12 := by omega
        obtain ⟨_, _, _, _, c4, _⟩ := T12.cells
        have f4 := (T12.thaw 4).1
        have hfresh : ∀ k, inO b hb (.slice (some ⟨g, 0, none⟩) l.length cap) fv k → g12 ≠ k := fun k hk e => by
          have h2 := HLT.out k hk
          omega
        have hrd : Reads w12 (.slice (some ⟨g12, 0, none⟩) N cap12) (i64s (freeI (l.set n ([], 0)))) := Reads.of_own (base := w9.heap.size) (e := 3) (by rw [show (i64s (freeI (l.set n ([], 0)))).length = N from (List.length_map ..).trans HN.out]; exact own12) (by rw [show (i64s (freeI (l.set n ([], 0)))).length = N from (List.length_map ..).trans HN.out]; have := HFL.out; omega)
        have T13 := Lib.hid (T12.setFree (.slice (some ⟨g12, 0, none⟩) N cap12) (freeI (l.set n ([], 0))) hrd (fun e => hfresh b (.inl rfl) (by simp [Value.ownBlock] at e; exact e)) (fun e => hfresh hb (.inr (.inl rfl)) (by simp [Value.ownBlock] at e; exact e)) (fun k hk e => hfresh k (.inr (.inr (.inl hk))) (by simp [Value.ownBlock] at e; exact e)) (fun k hk => by simp [Value.ownBlock] at hk; rw [← hk]; exact hlt12))
        have O13 := Lib.hid ((O11.out.trans hS (fun k hk => .inr (by have := (OWN10.out.lt k hk).1; omega))).setCell1 (g := b) (.inl (.inl rfl)) 4 (.slice (some ⟨g12, 0, none⟩) N cap12))
        have hmany : (liveN l : Int) - 1 = (liveN (l.set n ([], 0)) : Int) := by
          have := liveN_set hn ([], (0 : Int))
          rw [if_pos HL.out, if_neg (by decide)] at this
          omega
        have HEND : Hid (RelP w b O most seed (l.set n ([], 0), true, 0) (.returned (.tuple #[.bool true, .int .i64 0])) (w12.setCell ⟨b, 4, none⟩ (.slice (some ⟨g12, 0, none⟩) N cap12))) := by
          have t13 := T13.out
          rw [hmany] at t13
          have t13' : Tb (w12.setCell ⟨b, 4, none⟩ (.slice (some ⟨g12, 0, none⟩) N cap12)) b most seed hb hc (.slice (some ⟨g, 0, none⟩) l.length cap) (.slice (some ⟨g12, 0, none⟩) N cap12) hd' (nx'.set n 0) (l.set n ([], 0)) (freeI (l.set n ([], 0))) (liveN (l.set n ([], 0))) := t13
          refine ⟨inO b hb (.slice (some ⟨g, 0, none⟩) l.length cap) (.slice (some ⟨g12, 0, none⟩) N cap12), rfl, ⟨hb, hc, _, _, hd', nx'.set n 0, _, t13', HC7.out, fun _ => Iff.rfl, by rw [HLEN.out]; exact t4⟩, O13.out.more (fun k hk => .inl ((T3.out k).2 hk)), fun k hk => ?_⟩
          rcases hk with h | h | h | h
          · exact .inl ((T3.out k).2 (.inl h))
          · exact .inl ((T3.out k).2 (.inr (.inl h)))
          · exact .inl ((T3.out k).2 (.inr (.inr (.inl h))))
          · simp [Value.ownBlock] at h; exact .inr (by omega)
        clear own12 gr12 hat12 hS hnot T12 T13 O13 hrd hmany hfresh T10 T11 O10 O11 OWN10 hlen12
        go_wp2_with fail
        go_ret2
        exact HEND.out
      · have e1 : ((m : Int) == (n : Int)) = false := by rw [beq_eq_false_iff_ne]; omega
        have e2 : ((m : Int) != (n : Int)) = true := by rw [bne_iff_ne]; omega
        clear hmm
        go_wp2_with fail
        go_quiet (fail)
        have HT2 := Lib.hid (HT.out.drewN nq)
        have HO2 := Lib.hid (HO.out.drewN nq)
        clear HT HO k0 k1 c0 c1 c2 c3 c4 c5
        go_wp2_with fail
        go_roundg rest.length
        case measure => rw [HR.out]; simp
        case rel =>
          refine ⟨pre ++ [m], rest, g, m * 3 + 2, rfl, rfl, by rw [HCH.out]; simp, ?_, .inr ⟨pre, m, rfl, rfl, rfl⟩, HT2.out, HO2.out⟩
          rcases List.mem_cons.1 HM.out with h | h
          · exfalso; subst h; simp at e1
          · exact h
theorem rel_any {w : World} {b : Nat} {O : Nat → Prop} {most seed R : Int} {l : Nms} (t : Tab w b O most seed l) (hm : 1 ≤ most) (hw : Wf most R l) (hR : R ≤ 2147483647) (n : Int) :
    Calls Try.prog 59 #[.pointer (some ⟨b, 0, none⟩), .int .i64 n] w (RelP w b O most seed (relM l n)) := by
  rcases Bool.eq_false_or_eq_true (hasM l n) with h | h
  · unfold hasM at h
    rw [Bool.and_eq_true, decide_eq_true_eq] at h
    obtain ⟨k, rfl⟩ := Int.eq_ofNat_of_zero_le h.1
    rw [Int.toNat_natCast] at h
    by_cases h1 : 1 < (nmAt l k).2
    · exact rel_more t hm hw k h.2 h1 hR
    · exact rel_last t hm hw k h.2 h1
  · exact rel_no t hm hw n h
end Go.Proofs.Ythngkimncdpekaa
