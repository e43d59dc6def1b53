/- The law's is. -/
import Derived.Test.YtanmihifkjhaaaaRefA
import Derived.Deep.RegionHeld3
namespace Go.Proofs.Ytanmihifkjhaaaa
set_option linter.unusedVariables false
open Go.RowKit Go.Maps Go.Sort

/-- The law's table, the document's list, and the document's table in a box of the callee. -/
structure Ij (V w : World) (b : Nat) (most seed R : Int) (l : Nms) (B : Nat) (p : Option Addr) (cap A : Nat) : Prop where
  k : Kt V w b most seed R l
  rf : Rf w B p cap l
  bx : Blk w A 31 #[.int .i64 most, .slice p l.length cap]
section
variable {V w w' : World} {b : Nat} {most seed R : Int} {l : Nms} {B : Nat} {p : Option Addr} {cap A : Nat}
theorem Ij.below (j : Ij V w b most seed R l B p cap A) (h : Below w.heap.size w w') : Ij V w' b most seed R l B p cap A := ⟨j.k.quiet h, ownsRow_below j.rf h, Blk.below j.bx h (Blk.lt j.bx)⟩
theorem Ij.cells (j : Ij V w b most seed R l B p cap A) : w.cell? ⟨A, 0, none⟩ = some (.int .i64 most) ∧ w.cell? ⟨A, 1, none⟩ = some (.slice p l.length cap) := ⟨Blk.cell j.bx 0, Blk.cell j.bx 1⟩
theorem Kt.wf (k : Kt V w b most seed R l) : Wf most R l := by
  obtain ⟨O, h1, h2, h3, h4⟩ := k
  exact h3
theorem Kt.low (k : Kt V w b most seed R l) : l.length ≤ 100000 := by
  obtain ⟨O, h1, h2, h3, h4⟩ := k
  exact h1.low
theorem Kt.lensB (k : Kt V w b most seed R l) (hm : 1 ≤ most) :
    Calls Try.prog 17 #[.pointer (some ⟨b, 0, none⟩), .int .i64 (liveN l), .int .i64 most] w fun e w' => e = .returned (.bool true) ∧ Below w.heap.size w w' := by
  obtain ⟨O, h1, h2, h3, h4⟩ := k
  exact llens_any h1 hm _ rfl
theorem Kt.listB (k : Kt V w b most seed R l) (hm : 1 ≤ most) :
    Calls Try.prog 19 #[.pointer (some ⟨b, 0, none⟩)] w fun e w' => ∃ p cap, e = .returned (.slice p (namesL l).length cap) ∧ w'.ownsRow w.heap.size 9 1 (.slice p (namesL l).length cap) (namesL l).length ((namesL l).map encStr) ∧ Below w.heap.size w w' := by
  obtain ⟨O, h1, h2, h3, h4⟩ := k
  refine (names_any h1 hm).mono ?_
  rintro e w' ⟨v, rfl, t1, t2⟩
  obtain ⟨p, cap, rfl⟩ := owns_form t1
  exact ⟨p, cap, rfl, t1, t2⟩
theorem Kt.findsB (k : Kt V w b most seed R l) (s : ByteArray) (x e : Int) (hx : findM l s.data.toList = (x, e)) (hs : s.size ≤ 140737488355328) (hm : 1 ≤ most) :
    Calls Try.prog 27 #[.pointer (some ⟨b, 0, none⟩), .string s, .int .i64 x, .int .i64 e] w fun e w' => e = .returned (.bool true) ∧ Below w.heap.size w w' := by
  obtain ⟨O, h1, h2, h3, h4⟩ := k
  exact lfinds_any h1 hm h3 s hs x e hx
theorem Kt.namesB (k : Kt V w b most seed R l) (n : Int) (x : List UInt8) (e : Int) (hx : nameM l n = (x, e)) (hm : 1 ≤ most) :
    Calls Try.prog 21 #[.pointer (some ⟨b, 0, none⟩), .int .i64 n, .string ⟨x.toArray⟩, .int .i64 e] w fun e w' => e = .returned (.bool true) ∧ w = w' := by
  obtain ⟨O, h1, h2, h3, h4⟩ := k
  exact lnames_any h1 hm h3 n x e hx
theorem Kt.refsB (k : Kt V w b most seed R l) (n x e : Int) (hx : refsM l n = (x, e)) (hm : 1 ≤ most) :
    Calls Try.prog 28 #[.pointer (some ⟨b, 0, none⟩), .int .i64 n, .int .i64 x, .int .i64 e] w fun e w' => e = .returned (.bool true) ∧ w = w' := by
  obtain ⟨O, h1, h2, h3, h4⟩ := k
  exact lrefs_any h1 hm h3 n x e hx
end
def RNames (w : World) (l : Nms) (e : Ending) (w' : World) : Prop := ∃ p cap, e = .returned (.slice p (namesL l).length cap) ∧ w'.ownsRow w.heap.size 9 1 (.slice p (namesL l).length cap) (namesL l).length ((namesL l).map encStr) ∧ Below w.heap.size w w'
set_option maxHeartbeats 4000000 in
set_option maxRecDepth 100000 in
theorem is_any {V w : World} {b : Nat} {most seed R : Int} {l : Nms} {B : Nat} {p : Option Addr} {cap : Nat} (hm : 1 ≤ most) (k : Kt V w b most seed R l) (rf : Rf w B p cap l)
    (hNM : ∀ w', Rf w' B p cap l → Calls Try.prog 30 #[.agg #[.int .i64 most, .slice p l.length cap]] w' (RNames w' l)) (s : ByteArray) (hs : s.size ≤ 140737488355328) (n : Int) :
    Calls Try.prog 11 #[.pointer (some ⟨b, 0, none⟩), .agg #[.int .i64 most, .slice p l.length cap], .string s, .int .i64 n] w fun e w' => e = .returned (.bool true) ∧ Below w.heap.size w w' := by
  have hlow := k.low
  have hwf := Lib.hid k.wf
  have hnl : (namesL l).length ≤ 100000 := by
    have h1 := namesL_len l
    have h2 := liveN_le l
    omega
  have hB := (Below.refl w.heap.size w).alloc (Nat.le_refl _) (.cells #[.int .i64 most, .slice p l.length cap] 31)
  have J0 : Hid (Ij V (w.alloc (.cells #[.int .i64 most, .slice p l.length cap] 31)) b most seed R l B p cap w.heap.size) := ⟨k.quiet hB, ownsRow_below rf hB, Blk.new _ _ _⟩
  have HB := Lib.hid hB
  have HNM := Lib.hid hNM
  have hsz : w.heap.size < (w.alloc (.cells #[.int .i64 most, .slice p l.length cap] 31)).heap.size := by simp
  obtain ⟨c0, c1⟩ := J0.out.cells
  clear k rf hB hNM
  go_enter Try.func11, Try.ntmps11
  go_wp2_with fail
  obtain ⟨A, hA⟩ : ∃ A, w.heap.size = A := ⟨_, rfl⟩
  rw [hA] at J0 c0 c1 hsz
  simp only [hA]
  have HA := Lib.hid hA
  clear hA
  generalize w.alloc (.cells #[.int .i64 most, .slice p l.length cap] 31) = W at *
  have J0d : Hid (Ij V W.drew b most seed R l B p cap A) := J0.out.below ((Below.refl _ _).drew)
  have HL := Lib.hid (rlen_any J0d.out.rf hlow most)
  go_region_held3 (fun w' => w'.cell? ⟨A, 0, none⟩ = some (.int .i64 most) ∧ w'.cell? ⟨A, 1, none⟩ = some (.slice p l.length cap)) (go_keep) (first
    | (go_at_call 29; refine HL.out.mono ?_; rintro e w1 ⟨rfl, b1⟩; have J1 := Lib.hid (J0d.out.below b1); obtain ⟨k0, k1⟩ := J1.out.cells)
    | (go_at_call 17; refine (J1.out.k.lensB hm).mono ?_; rintro e w2 ⟨rfl, b2⟩; have J2 := Lib.hid (J1.out.below b2); obtain ⟨k20, k21⟩ := J2.out.cells)
    | (go_at_call 19; refine (J2.out.k.listB hm).mono ?_; rintro e w3 ⟨p3, c3, rfl, o3, b3⟩; have J3 := Lib.hid (J2.out.below b3); obtain ⟨k30, k31⟩ := J3.out.cells)
    | (go_at_call 30; refine (HNM.out _ J3.out.rf).mono ?_; rintro e w4 ⟨p4, c4, rfl, o4, b4⟩; have J4 := Lib.hid (J3.out.below b4); obtain ⟨k40, k41⟩ := J4.out.cells)
    | (go_at_call 25; refine (strings_any (.slice p3 (namesL l).length c3) (.slice p4 (namesL l).length c4) (namesL l) w4 (Reads.of_own (by rw [List.length_map]; exact ownsRow_below o3 b4) (by rw [List.length_map]; omega)) (Reads.of_own (by rw [List.length_map]; exact o4) (by rw [List.length_map]; omega))).mono ?_; rintro e w5 ⟨rfl, b5⟩; have J5 := Lib.hid (J4.out.below b5); obtain ⟨k50, k51⟩ := J5.out.cells))
  have BB : Hid (Below W.heap.size W w5) := ((((((Below.refl _ _).drew).trans b1).trans (b2.mono b1.size)).trans (b3.mono (by have := b1.size; have := b2.size; simp at *; omega))).trans (b4.mono (by have := b1.size; have := b2.size; have := b3.size; simp at *; omega))).trans (b5.mono (by have := b1.size; have := b2.size; have := b3.size; have := b4.size; simp at *; omega))
  clear HL b1 b2 b3 b4 b5 o3 o4 J0 J0d J1 J2 J3 J4 k0 k1 k20 k21 k30 k31 k40 k41 c0 c1
  go_wp2_with fail
  go_loopg [9] (l.length + 1) (fun r i wr => ∃ k : Nat, k ≤ l.length + 1 ∧ r + k = l.length + 1 ∧ i = .int .i64 k ∧ Below W.heap.size W wr ∧ Ij V wr b most seed R l B p cap A)
  case atStart => exact ⟨0, by omega, by omega, rfl, BB.out, J5.out⟩
  case round =>
    clear J5 BB k50 k51
    obtain ⟨k, hk, hr, rfl, hbb, hj⟩ := hrel
    have HK := Lib.hid hr
    have BB := Lib.hid hbb
    have J := Lib.hid hj
    obtain ⟨c0, c1⟩ := J.out.cells
    clear hr hbb hj
    by_cases hlt : k < l.length + 1
    · have hle : k ≤ l.length := by omega
      have HH := Lib.hid (rhas_any J.out.rf hlow most k)
      rcases Bool.eq_false_or_eq_true (hasM l k) with hh | hh
      · have hlive : liveB l k = true := by unfold hasM at hh; simpa using hh
        have hkl := live_lt hlive
        rw [hh] at HH
        have HNA : Hid (nameM l k = ((nmAt l k).1, 0)) := by unfold Hid nameM; rw [if_pos hh]; rfl
        have HRE : Hid (refsM l k = ((nmAt l k).2, 0)) := by unfold Hid refsM; rw [if_pos hh]; rfl
        have hv := hwf.out.text k hlive
        have HFI : Hid (findM l (nmAt l k).1 = ((k : Int), 0)) := by unfold Hid findM; rw [if_pos hv, findN_of hwf.out.dist hlive rfl]
        have hx64 : (nmAt l k).1.length ≤ 64 := by unfold validB at hv; simp at hv; omega
        obtain ⟨g, rfl, hg⟩ := Rf.ptr J.out.rf (by omega)
        have HHB := Lib.hid hh
        clear hh hlive hv hle
        go_wp2_with fail
        refine HH.out.mono ?_
        rintro e w6 ⟨rfl, b6⟩
        have J6 := Lib.hid (J.out.below b6)
        have BB6 : Hid (Below W.heap.size W w6) := BB.out.trans (b6.mono BB.out.size)
        obtain ⟨k60, k61⟩ := J6.out.cells
        obtain ⟨n0, n1⟩ := Rf.at J6.out.rf hkl
        have CN := Lib.hid (J6.out.k.namesB k (nmAt l k).1 0 HNA.out hm)
        have CR := Lib.hid (J6.out.k.refsB k (nmAt l k).2 0 HRE.out hm)
        have CF := Lib.hid (J6.out.k.findsB ⟨(nmAt l k).1.toArray⟩ k 0 HFI.out (by show (nmAt l k).1.toArray.size ≤ _; simp; omega) hm)
        clear HH b6 BB J c0 c1 HNA HRE HFI
        generalize (⟨(nmAt l k).1.toArray⟩ : ByteArray) = S at *
        generalize (nmAt l k).2 = r at *
        go_wp2_with (first
          | (go_at_call 21; refine CN.out.mono ?_; rintro e w7 ⟨rfl, rfl⟩)
          | (go_at_call 28; refine CR.out.mono ?_; rintro e w7 ⟨rfl, rfl⟩))
        refine CF.out.mono ?_
        rintro e w8 ⟨rfl, b8⟩
        have J8 := Lib.hid (J6.out.below b8)
        have BB8 : Hid (Below W.heap.size W w8) := BB6.out.trans (b8.mono BB6.out.size)
        obtain ⟨k80, k81⟩ := J8.out.cells
        have HH := Lib.hid (rhas_any J8.out.rf hlow most k)
        rw [HHB.out] at HH
        clear CN CR CF b8 BB6 J6 k60 k61 n0 n1
        go_wp2_with fail
        refine HH.out.mono ?_
        rintro e w9 ⟨rfl, b9⟩
        have J9 := Lib.hid (J8.out.below b9)
        have BB9 : Hid (Below W.heap.size W w9) := BB8.out.trans (b9.mono BB8.out.size)
        clear HH b9 BB8 J8 k80 k81
        go_wp2_with fail
        go_roundg (gk - 1)
        case measure => have := HK.out; omega
        case rel => exact ⟨k + 1, by omega, by have := HK.out; omega, by go_num, BB9.out, J9.out⟩
      · have HNA : Hid (nameM l k = ([], 9)) := by unfold Hid nameM; rw [if_neg (by rw [hh]; decide)]
        have HRE : Hid (refsM l k = (0, 9)) := by unfold Hid refsM; rw [if_neg (by rw [hh]; decide)]
        rw [hh] at HH
        have HHB := Lib.hid hh
        clear hh
        go_wp2_with fail
        refine HH.out.mono ?_
        rintro e w6 ⟨rfl, b6⟩
        have J6 := Lib.hid (J.out.below b6)
        have BB6 : Hid (Below W.heap.size W w6) := BB.out.trans (b6.mono BB.out.size)
        obtain ⟨k60, k61⟩ := J6.out.cells
        clear HH b6 BB J c0 c1
        have HH := Lib.hid (rhas_any J6.out.rf hlow most k)
        rw [HHB.out] at HH
        go_wp2_with fail
        refine HH.out.mono ?_
        rintro e w8 ⟨rfl, b8⟩
        have J8 := Lib.hid (J6.out.below b8)
        have BB8 : Hid (Below W.heap.size W w8) := BB6.out.trans (b8.mono BB6.out.size)
        have CN := Lib.hid (J8.out.k.namesB k [] 9 HNA.out hm)
        have CR := Lib.hid (J8.out.k.refsB k 0 9 HRE.out hm)
        clear HH b8 BB6 J6 k60 k61 HNA HRE
        go_wp2_with (first
          | (go_at_call 21; refine CN.out.mono ?_; rintro e w7 ⟨rfl, rfl⟩)
          | (go_at_call 28; refine CR.out.mono ?_; rintro e w7 ⟨rfl, rfl⟩))
        go_roundg (gk - 1)
        case measure => have := HK.out; omega
        case rel => exact ⟨k + 1, by omega, by have := HK.out; omega, by go_num, BB8.out, J8.out⟩
    · obtain rfl : k = l.length + 1 := by omega
      clear HK hlt hk
      have HH := Lib.hid (rhas_any J.out.rf hlow most n)
      have HEND : Hid (∀ w', Below W.heap.size W w' → Below w.heap.size w w') := fun w' h => by have h1 := HB.out; rw [HA.out] at h1 ⊢; exact h1.trans (h.mono (by omega))
      rcases Bool.eq_false_or_eq_true (hasM l n) with hh | hh
      · rw [hh] at HH
        clear hh
        go_wp2_with fail
        refine HH.out.mono ?_
        rintro e w8 ⟨rfl, b8⟩
        have J8 := Lib.hid (J.out.below b8)
        have BB8 : Hid (Below W.heap.size W w8) := BB.out.trans (b8.mono BB.out.size)
        clear HH b8 BB J c0 c1
        have HV := Lib.hid (fun w' => rvalid_any s w')
        rcases Bool.eq_false_or_eq_true (validB s.data.toList) with hv | hv
        · have HF := Lib.hid (fun w' (j : Ij V w' b most seed R l B p cap A) => rfind_any j.rf hlow most hwf.out.dist s)
          cases hf : findN l s.data.toList with
          | some m =>
            rw [hv] at HV
            rw [hf] at HF
            obtain ⟨k80, k81⟩ := J8.out.cells
            clear hf hv
            go_wp2_with (first
              | (go_at_call 32; refine (HV.out _).mono ?_; rintro e w7 ⟨rfl, rfl⟩))
            refine (HF.out _ J8.out).mono ?_
            rintro e w9 ⟨rfl, b9⟩
            have BB9 : Hid (Below W.heap.size W w9) := BB8.out.trans (b9.mono BB8.out.size)
            clear HF b9 BB8 J8 k80 k81
            unfold idxI
            go_wp2_with fail
            go_ret
            exact ⟨rfl, HEND.out _ BB9.out⟩
          | none =>
            have HFI : Hid (findM l s.data.toList = (0, 9)) := by unfold Hid findM; rw [if_pos hv, hf]
            rw [hv] at HV
            rw [hf] at HF
            obtain ⟨k80, k81⟩ := J8.out.cells
            clear hf hv
            go_wp2_with (first
              | (go_at_call 32; refine (HV.out _).mono ?_; rintro e w7 ⟨rfl, rfl⟩))
            refine (HF.out _ J8.out).mono ?_
            rintro e w9 ⟨rfl, b9⟩
            have BB9 : Hid (Below W.heap.size W w9) := BB8.out.trans (b9.mono BB8.out.size)
            have J9 := Lib.hid (J8.out.below b9)
            have CF := Lib.hid (J9.out.k.findsB s 0 9 HFI.out hs hm)
            clear HF b9 BB8 J8 k80 k81
            unfold idxI
            go_wp2_with fail
            refine CF.out.mono ?_
            rintro e w10 ⟨rfl, b10⟩
            have BB10 : Hid (Below W.heap.size W w10) := BB9.out.trans (b10.mono BB9.out.size)
            clear CF b10
            go_wp2_with fail
            go_ret
            exact ⟨rfl, HEND.out _ BB10.out⟩
        · have HFI : Hid (findM l s.data.toList = (0, 2)) := by unfold Hid findM; rw [if_neg (by rw [hv]; decide)]
          rw [hv] at HV
          have CF := Lib.hid (J8.out.k.findsB s 0 2 HFI.out hs hm)
          clear hv
          go_wp2_with (first
              | (go_at_call 32; refine (HV.out _).mono ?_; rintro e w7 ⟨rfl, rfl⟩))
          refine CF.out.mono ?_
          rintro e w10 ⟨rfl, b10⟩
          have BB10 : Hid (Below W.heap.size W w10) := BB8.out.trans (b10.mono BB8.out.size)
          clear CF b10
          go_wp2_with fail
          go_ret
          exact ⟨rfl, HEND.out _ BB10.out⟩
      · have HNA : Hid (nameM l n = ([], 9)) := by unfold Hid nameM; rw [if_neg (by rw [hh]; decide)]
        have HRE : Hid (refsM l n = (0, 9)) := by unfold Hid refsM; rw [if_neg (by rw [hh]; decide)]
        rw [hh] at HH
        clear hh
        go_wp2_with fail
        refine HH.out.mono ?_
        rintro e w8 ⟨rfl, b8⟩
        have J8 := Lib.hid (J.out.below b8)
        have BB8 : Hid (Below W.heap.size W w8) := BB.out.trans (b8.mono BB.out.size)
        have CN := Lib.hid (J8.out.k.namesB n [] 9 HNA.out hm)
        have CR := Lib.hid (J8.out.k.refsB n 0 9 HRE.out hm)
        clear HH b8 BB J c0 c1 HNA HRE
        have HV := Lib.hid (fun w' => rvalid_any s w')
        rcases Bool.eq_false_or_eq_true (validB s.data.toList) with hv | hv
        · have HF := Lib.hid (fun w' (j : Ij V w' b most seed R l B p cap A) => rfind_any j.rf hlow most hwf.out.dist s)
          cases hf : findN l s.data.toList with
          | some m =>
            rw [hv] at HV
            rw [hf] at HF
            obtain ⟨k80, k81⟩ := J8.out.cells
            clear hf hv
            go_wp2_with (first
              | (go_at_call 21; refine CN.out.mono ?_; rintro e w7 ⟨rfl, rfl⟩)
              | (go_at_call 28; refine CR.out.mono ?_; rintro e w7 ⟨rfl, rfl⟩)
              | (go_at_call 32; refine (HV.out _).mono ?_; rintro e w7 ⟨rfl, rfl⟩))
            refine (HF.out _ J8.out).mono ?_
            rintro e w9 ⟨rfl, b9⟩
            have BB9 : Hid (Below W.heap.size W w9) := BB8.out.trans (b9.mono BB8.out.size)
            clear HF b9 BB8 J8 k80 k81
            unfold idxI
            go_wp2_with fail
            go_ret
            exact ⟨rfl, HEND.out _ BB9.out⟩
          | none =>
            have HFI : Hid (findM l s.data.toList = (0, 9)) := by unfold Hid findM; rw [if_pos hv, hf]
            rw [hv] at HV
            rw [hf] at HF
            obtain ⟨k80, k81⟩ := J8.out.cells
            clear hf hv
            go_wp2_with (first
              | (go_at_call 21; refine CN.out.mono ?_; rintro e w7 ⟨rfl, rfl⟩)
              | (go_at_call 28; refine CR.out.mono ?_; rintro e w7 ⟨rfl, rfl⟩)
              | (go_at_call 32; refine (HV.out _).mono ?_; rintro e w7 ⟨rfl, rfl⟩))
            refine (HF.out _ J8.out).mono ?_
            rintro e w9 ⟨rfl, b9⟩
            have BB9 : Hid (Below W.heap.size W w9) := BB8.out.trans (b9.mono BB8.out.size)
            have J9 := Lib.hid (J8.out.below b9)
            have CF := Lib.hid (J9.out.k.findsB s 0 9 HFI.out hs hm)
            clear HF b9 BB8 J8 k80 k81
            unfold idxI
            go_wp2_with fail
            refine CF.out.mono ?_
            rintro e w10 ⟨rfl, b10⟩
            have BB10 : Hid (Below W.heap.size W w10) := BB9.out.trans (b10.mono BB9.out.size)
            clear CF b10
            go_wp2_with fail
            go_ret
            exact ⟨rfl, HEND.out _ BB10.out⟩
        · have HFI : Hid (findM l s.data.toList = (0, 2)) := by unfold Hid findM; rw [if_neg (by rw [hv]; decide)]
          rw [hv] at HV
          have CF := Lib.hid (J8.out.k.findsB s 0 2 HFI.out hs hm)
          clear hv
          go_wp2_with (first
              | (go_at_call 21; refine CN.out.mono ?_; rintro e w7 ⟨rfl, rfl⟩)
              | (go_at_call 28; refine CR.out.mono ?_; rintro e w7 ⟨rfl, rfl⟩)
              | (go_at_call 32; refine (HV.out _).mono ?_; rintro e w7 ⟨rfl, rfl⟩))
          refine CF.out.mono ?_
          rintro e w10 ⟨rfl, b10⟩
          have BB10 : Hid (Below W.heap.size W w10) := BB8.out.trans (b10.mono BB8.out.size)
          clear CF b10
          go_wp2_with fail
          go_ret
          exact ⟨rfl, HEND.out _ BB10.out⟩
end Go.Proofs.Ytanmihifkjhaaaa
