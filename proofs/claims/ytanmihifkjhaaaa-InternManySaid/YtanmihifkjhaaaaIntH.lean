/- InternHolds. -/
import Derived.Test.YtanmihifkjhaaaaHoldP
import Derived.Test.YtanmihifkjhaaaaOpenB
namespace Go.Proofs.Ytanmihifkjhaaaa
set_option linter.unusedVariables false
open Go.RowKit Go.Maps Go.Sort

theorem K2.start {V w : World} {b b2 : Nat} {O O2 : Nat → Prop} {most s1 s2 : Int} (hm : 1 ≤ most) (t1 : Tab w b O most s1 []) (t2 : Tab w b2 O2 most s2 []) (h1 : ∀ g, O g → V.heap.size ≤ g) (h2 : ∀ g, O2 g → V.heap.size ≤ g ∧ ¬ O g) (hb : Below V.heap.size V w) : K2 V w (fun _ => False) b b2 most s1 s2 0 [] [] :=
  ⟨O, O2, t1, t2, fun g h h' => (h2 g h').2 h, fun g h => ⟨h.elim (h1 g) (fun h => (h2 g h).1), fun h => h⟩, Wf.nil most 0 (by omega) (Int.le_refl _), Wf.nil most 0 (by omega) (Int.le_refl _), fun g h => h.elim, hb⟩
section
variable {V w : World} {S : Nat → Prop} {b b2 : Nat} {most s1 s2 R : Int} {l l2 : Nms} (k : K2 V w S b b2 most s1 s2 R l l2) (hm : 1 ≤ most)
include k hm
theorem K2.find (s : ByteArray) (hs : s.size ≤ 140737488355328) :
    Calls Try.prog 20 #[.pointer (some ⟨b, 0, none⟩), .string s] w fun e w' => e = .returned (.tuple #[.int .i64 (findM l s.data.toList).1, .int .i64 (findM l s.data.toList).2]) ∧ Below w.heap.size w w' := by
  obtain ⟨O, O2, h1, h2, h3, h4, h5, h5', h6, h7⟩ := k
  exact tfind_any h1 hm h5 s hs
theorem K2.names (n : Int) (x : List UInt8) (e : Int) (hx : nameM l n = (x, e)) :
    Calls Try.prog 21 #[.pointer (some ⟨b, 0, none⟩), .int .i64 n, .string ⟨x.toArray⟩, .int .i64 e] w fun e w' => e = .returned (.bool true) ∧ w = w' := by
  obtain ⟨O, O2, h1, h2, h3, h4, h5, h5', h6, h7⟩ := k
  exact lnames_any h1 hm h5 n x e hx
theorem K2.list : Calls Try.prog 19 #[.pointer (some ⟨b, 0, none⟩)] w fun e w' => ∃ p cap, e = .returned (.slice p (namesL l).length cap) ∧ w'.ownsRow w.heap.size 9 1 (.slice p (namesL l).length cap) (namesL l).length ((namesL l).map encStr) ∧ Below w.heap.size w w' := by
  obtain ⟨O, O2, h1, h2, h3, h4, h5, h5', h6, h7⟩ := k
  refine (names_any h1 hm).mono ?_
  rintro e w' ⟨v, rfl, t1, t2⟩
  obtain ⟨p, cap, rfl⟩ := owns_form t1
  exact ⟨p, cap, rfl, t1, t2⟩
theorem K2.len : Calls Try.prog 24 #[.pointer (some ⟨b, 0, none⟩)] w fun e w' => e = .returned (.tuple #[.int .i64 (liveN l), .int .i64 most]) ∧ Below w.heap.size w w' := by
  obtain ⟨O, O2, h1, h2, h3, h4, h5, h5', h6, h7⟩ := k
  exact len_any h1 hm
theorem K2.add (hm2 : most ≤ 65536) (hR0 : 0 ≤ R) (hR : R < 2147483647) (s : ByteArray) (hs : s.size ≤ 140737488355328) :
    Calls Try.prog 22 #[.pointer (some ⟨b, 0, none⟩), .string s] w fun e w' => e = .returned (.tuple #[.int .i64 (addM most l s.data.toList).2.1, .int .i64 (addM most l s.data.toList).2.2]) ∧ K2 V w' S b b2 most s1 s2 (R + 1) (addM most l s.data.toList).1 l2 ∧ Only (fun g => ¬ S g) w w' := by
  obtain ⟨O, O2, h1, h2, h3, h4, h5, h5', h6, h7⟩ := k
  refine (add_any h1 hm hm2 h5 hR s hs).mono ?_
  rintro e w' ⟨O', rfl, t1, t2, t3⟩
  exact ⟨rfl, K2.turn h1 h2 h3 h4 h5' h6 h7 (by omega) (h5.add (by omega) s.data.toList) t1 t2 t3⟩
theorem K2.adds (hm2 : most ≤ 65536) (hR0 : 0 ≤ R) (hR : R < 2147483647) (s : ByteArray) (hs : s.size ≤ 140737488355328) (n x : Int) (l' : Nms) (hx : addM most l s.data.toList = (l', n, x)) :
    Calls Try.prog 14 #[.pointer (some ⟨b, 0, none⟩), .string s, .int .i64 n, .int .i64 x] w fun e w' => e = .returned (.bool true) ∧ K2 V w' S b b2 most s1 s2 (R + 1) l' l2 ∧ Only (fun g => ¬ S g) w w' := by
  obtain ⟨O, O2, h1, h2, h3, h4, h5, h5', h6, h7⟩ := k
  refine (ladds_any h1 hm hm2 h5 hR s hs l' n x hx).mono ?_
  rintro e w' ⟨O', rfl, t1, t2, t3⟩
  have hw := h5.add (by omega) s.data.toList
  rw [hx] at hw
  exact ⟨rfl, K2.turn h1 h2 h3 h4 h5' h6 h7 (by omega) hw t1 t2 t3⟩
theorem K2.rel (hR : R ≤ 2147483647) (n : Int) :
    Calls Try.prog 23 #[.pointer (some ⟨b, 0, none⟩), .int .i64 n] w fun e w' => e = .returned (.tuple #[.bool (relM l n).2.1, .int .i64 (relM l n).2.2]) ∧ K2 V w' S b b2 most s1 s2 R (relM l n).1 l2 ∧ Only (fun g => ¬ S g) w w' := by
  obtain ⟨O, O2, h1, h2, h3, h4, h5, h5', h6, h7⟩ := k
  refine (rel_any h1 hm h5 hR n).mono ?_
  rintro e w' ⟨O', rfl, t1, t2, t3⟩
  exact ⟨rfl, K2.turn h1 h2 h3 h4 h5' h6 h7 (Int.le_refl _) (h5.rel n) t1 t2 t3⟩
theorem K2.frees (hR : R ≤ 2147483647) (n : Int) (x : Bool) (y : Int) (l' : Nms) (hx : relM l n = (l', x, y)) :
    Calls Try.prog 16 #[.pointer (some ⟨b, 0, none⟩), .int .i64 n, .bool x, .int .i64 y] w fun e w' => e = .returned (.bool true) ∧ K2 V w' S b b2 most s1 s2 R l' l2 ∧ Only (fun g => ¬ S g) w w' := by
  obtain ⟨O, O2, h1, h2, h3, h4, h5, h5', h6, h7⟩ := k
  refine (lfrees_any h1 hm h5 hR n l' x y hx).mono ?_
  rintro e w' ⟨O', rfl, t1, t2, t3⟩
  have hw := h5.rel n
  rw [hx] at hw
  exact ⟨rfl, K2.turn h1 h2 h3 h4 h5' h6 h7 (Int.le_refl _) hw t1 t2 t3⟩
end
set_option maxHeartbeats 8000000 in
set_option maxRecDepth 100000 in
theorem holds_some (most : Int) (hm : 1 ≤ most) (hm2 : most ≤ 65536) (q : Option Addr) (cap : Nat) (L : List Ac) (hL : L.length ≤ 60) (hL2 : ∀ X ∈ L, X.2.2.size ≤ 100) (s1 s2 : Int) (a0 : 0 ≤ s1) (a1 : s1 ≤ 18446744073709551615) (b0 : 0 ≤ s2) (b1 : s2 ≤ 18446744073709551615) (w : World) (hR : ActsOf w q L)
    (HF : Hid (Calls Try.prog 18 #[.slice q L.length cap] w fun e w' => e = .returned (.bool true) ∧ w = w')) :
    Calls Try.prog 6 #[.int .i64 most, .slice q L.length cap, .int .u64 s1, .int .u64 s2] w fun e w' => e = .returned (.bool true) ∧ Below w.heap.size w w' := by
  have HL := Lib.hid hL
  have HL2 := Lib.hid hL2
  have HRR := Lib.hid hR
  clear hL hL2 hR
  go_enter Try.func6, Try.ntmps6
  go_wp2_with (go_at_call 18; refine HF.out.mono ?_; rintro e w1 ⟨rfl, rfl⟩)
  refine (new_ok most s1 hm hm2 a0 a1 _).mono ?_
  rintro e w1 ⟨b, O, rfl, t1, t2, t3⟩
  have T1 := Lib.hid t1
  have T2 := Lib.hid t2
  have T3 := Lib.hid t3
  clear t1 t2 t3
  go_wp2_with fail
  refine (new_ok most s2 hm hm2 b0 b1 _).mono ?_
  rintro e w2 ⟨b2, O2, rfl, t1, t2, t3⟩
  have K0 : Hid (K2 w w2 (fun _ => False) b b2 most s1 s2 0 [] []) := K2.start hm (T1.out.below t3) t1 T2.out (fun g hg => ⟨Nat.le_trans T3.out.size (t2 g hg), fun ho => by have := T1.out.lt ho; have := t2 g hg; omega⟩) (T3.out.trans (t3.mono T3.out.size))
  have R2 : Hid (ActsOf w2 q L) := HRR.out.below (T3.out.trans (t3.mono T3.out.size))
  clear t1 t2 t3 T1 T2 T3 HF
  go_wp2_with fail
  go_loopg [13, 14] L.length (fun r G i wr => ∃ (k : Nat) (g : Int) (l : Nms), k ≤ L.length ∧ r + k = L.length ∧ i = .int .i64 k ∧ G = .int .i64 g ∧ (l.length : Int) ≤ g ∧ g ≤ 65536 ∧ K2 w wr (fun _ => False) b b2 most s1 s2 (2 * k) l l ∧ ActsOf wr q L)
  case atStart => exact ⟨0, 0, [], by omega, by omega, rfl, rfl, by decide, by decide, K0.out, R2.out⟩
  case round =>
    clear K0 R2
    obtain ⟨k, g, l, hk, hr, rfl, rfl, hg, hg2, k1, hR⟩ := hrel
    have HR := Lib.hid hr
    obtain ⟨GK, hGK⟩ : ∃ GK, GK = gk := ⟨_, rfl⟩
    have HGK := Lib.hid hGK
    clear hGK
    have HG := Lib.hid hg
    have K1 := Lib.hid k1
    have RR := Lib.hid hR
    have h60 := HL.out
    clear hr hg k1 hR
    by_cases hlt : k < L.length
    · obtain ⟨X, hX⟩ : ∃ X, L[k]? = some X := ⟨L[k], List.getElem?_eq_getElem hlt⟩
      have hXs := HL2.out X (List.mem_of_getElem? hX)
      obtain ⟨blk, off, rfl, hb, c0, c1, c2⟩ := RR.out k X hX
      obtain ⟨a, n, S⟩ := X
      simp only at c0 c1 c2 hXs
      clear hX
      go_wp2_with fail
      clear c0 c1 c2
      have K2' := Lib.hid (K1.out.keep (S' := fun x => x = wr.heap.size) ((Below.refl _ _).alloc (Nat.le_refl _) (.cells #[.int .i64 a, .int .i64 n, .string S] 47)) (fun x hx => .inr ⟨by omega, by simp; omega⟩))
      have HBX : Hid (Blk (wr.alloc (.cells #[.int .i64 a, .int .i64 n, .string S] 47)) wr.heap.size 47 #[.int .i64 a, .int .i64 n, .string S]) := Blk.new _ _ _
      have R2 : Hid (ActsOf (wr.alloc (.cells #[.int .i64 a, .int .i64 n, .string S] 47)) (some ⟨blk, off, none⟩) L) := RR.out.below ((Below.refl _ _).alloc (Nat.le_refl _) _)
      obtain ⟨A, hA⟩ : ∃ A, wr.heap.size = A := ⟨_, rfl⟩
      rw [hA] at K2' HBX ⊢
      clear hA K1 RR hb
      generalize wr.alloc (.cells #[.int .i64 a, .int .i64 n, .string S] 47) = W1 at *
      refine (K2'.out.list hm).mono ?_
      rintro e W2 ⟨p, cp, rfl, o2, b2'⟩
      have HNF : Hid (∀ x ∈ namesL l, ∃ n, findN l x = some n ∧ validB x = true ∧ liveB l n = true ∧ (nmAt l n).1 = x) := fun x hx => names_find K2'.out.wf hx
      have K3 : Hid (K2 w W2 (fun x => x = A ∨ (Value.slice p (namesL l).length cp).ownBlock = some x) b b2 most s1 s2 (2 * k) l l) := K2'.out.keep b2' (fun x hx => hx.elim .inl (fun h => .inr (o2.lt x h)))
      have BX : Hid (Blk W2 A 47 #[.int .i64 a, .int .i64 n, .string S]) := Blk.below HBX.out b2' (Blk.lt HBX.out)
      have R3 : Hid (ActsOf W2 (some ⟨blk, off, none⟩) L) := R2.out.below b2'
      have O2' := Lib.hid o2
      obtain ⟨N, hN⟩ : ∃ N, namesL l = N := ⟨_, rfl⟩
      rw [hN] at HNF K3 O2' ⊢
      have HN := Lib.hid hN
      have BF : Hid (∀ x, (Value.slice p N.length cp).ownBlock = some x → x < W2.heap.size) := fun x h => (O2'.out.lt x h).2
      have O3 : Hid (W2.ownsRow 0 9 1 (.slice p N.length cp) N.length (N.map encStr)) := ownsRow_low O2'.out (Nat.zero_le _)
      clear o2 b2' K2' HBX R2 hN O2'
      have hNl : N.length ≤ 1000000 := by
        have h1 := namesL_len l
        have h2 := liveN_le l
        have h3 := K3.out.wf.size
        rw [HN.out] at h1
        omega
      go_wp2_with fail
      go_loopg [17, 18] N.length (fun r v i wx => ∃ j : Nat, j ≤ N.length ∧ r + j = N.length ∧ i = .int .i64 j ∧ Below W2.heap.size W2 wx ∧ wx.ownsRow W2.heap.size 3 1 v j ((numL l (N.take j)).map (Value.int .i64)))
      case atStart => exact ⟨0, by omega, by omega, rfl, Below.refl _ _, World.ownsRow_nil _ _ _ _⟩
      case round =>
        obtain ⟨j, hj, hr, rfl, hbx, hown⟩ := hrel
        have HJ := Lib.hid hr
        have HBJ := Lib.hid hbx
        have HOJ := Lib.hid hown
        clear hr hbx hown
        by_cases hlj : j < N.length
        · obtain ⟨x, hx⟩ : ∃ x, N[j]? = some x := ⟨N[j], List.getElem?_eq_getElem hlj⟩
          obtain ⟨n0, hf0, hv0, hl0, ht0⟩ := HNF.out x (List.mem_of_getElem? hx)
          have hn0 := findN_len hf0
          have hl6 : l.length ≤ 65536 := by have := K3.out.wf.size; omega
          have HFM : Hid (findM l x = ((n0 : Int), 0)) := by unfold findM Hid; rw [if_pos hv0, hf0]
          have HNM : Hid (nameM l n0 = (x, 0)) := by unfold nameM hasM Hid; rw [if_pos (by rw [Int.toNat_natCast, hl0]; simp), Int.toNat_natCast, ht0]
          have HNEW : Hid ((numL l (N.take (j + 1))).map (Value.int .i64) = (numL l (N.take j)).map (Value.int .i64) ++ [.int .i64 n0]) := by
            unfold Hid numL
            rw [List.take_add_one, hx]
            simp [hf0, idxI]
          have hx64 : x.length ≤ 64 := by unfold validB at hv0; simp at hv0; omega
          obtain ⟨g5, cp5, he, _, _⟩ := O3.out.form (by omega)
          injection he with he1 _ he3
          subst he1 he3
          have hO3x := ownsRow_below O3.out HBJ.out
          have hcx := (hO3x.cellAt j (by omega)).trans (encStr_getElem N j x hx)
          have KX := Lib.hid (K3.out.quiet HBJ.out)
          have HFI := Lib.hid (KX.out.find hm ⟨x.toArray⟩ (by show x.toArray.size ≤ _; simp; omega))
          rw [show (⟨x.toArray⟩ : ByteArray).data.toList = x from rfl, HFM.out] at HFI
          clear hf0 hv0 hl0 ht0 hx hO3x HFM
          obtain ⟨XS, hXS⟩ : ∃ XS : ByteArray, ⟨x.toArray⟩ = XS := ⟨_, rfl⟩
          rw [hXS] at hcx HFI
          have HXS := Lib.hid hXS
          clear hXS
          go_wp2_with fail
          refine HFI.out.mono ?_
          rintro e w5 ⟨rfl, b5⟩
          have hO5 := ownsRow_below (ownsRow_below O3.out HBJ.out) b5
          have hc5 : w5.cell? ⟨g5, j, none⟩ = some (.string XS) := by
            rw [← hcx]
            exact b5.cell (p := ⟨g5, j, none⟩) (ownsRow_lt (ownsRow_below O3.out HBJ.out) rfl)
          have HB5 : Hid (Below W2.heap.size W2 w5) := HBJ.out.trans (b5.mono HBJ.out.size)
          have HO5 := Lib.hid (ownsRow_below HOJ.out b5)
          have HNA := Lib.hid ((KX.out.quiet b5).names hm n0 x 0 HNM.out)
          rw [HXS.out] at HNA
          obtain ⟨i0, hi, hz0, hz1, hz2⟩ := info_parts info_int
          have hjl2 : j ≤ 1000000 := by omega
          clear hO5 hcx HFI KX b5 HBJ HOJ HNF
          go_wp2_with (first
            | (go_at_call 21; refine HNA.out.mono ?_; rintro e w6 ⟨rfl, rfl⟩)
            | (at_builtin; refine wpList_append_own _ rfl _ _ 50 rfl W2.heap.size 3 i0 (.int .i64 0) 1 8 Try.underlying50 hi hz0 hz1 hz2 rfl (by decide) _ _ _ rfl (HO5.out.alloc _) ⟨w5.heap.size, 0, none⟩ 1 1 [.int .i64 n0] rfl rfl ?c1 ?c2 ?c3 ?c4 ?c5 ?_))
          case c1 => intro j' u hj'; rw [addr_add0]; exact (Blk.cell (Blk.new w5 3 #[.int .i64 (n0 : Int)]) j').trans (by simpa using hj')
          case c2 => intro u hu; rw [List.mem_singleton] at hu; subst hu; rfl
          case c3 => unfold maxLen; omega
          case c4 => omega
          case c5 => have := HB5.out.size; simp; omega
          intro v' w7 hown' hg7 _
          have HB7 := Lib.hid (below_append HB5.out HB5.out.size HO5.out hg7)
          have HO7 : Hid (w7.ownsRow W2.heap.size 3 1 v' (j + 1) ((numL l (N.take (j + 1))).map (Value.int .i64))) := by
            rw [HNEW.out]
            exact hown'
          clear hown' hg7 HO5 HB5 HNEW
          go_wp2_with fail
          go_roundg (gk - 1)
          case measure => have := HJ.out; omega
          case rel => exact ⟨j + 1, by omega, by have := HJ.out; omega, by go_num, HB7.out, HO7.out⟩
        · obtain rfl : j = N.length := by omega
          rw [List.take_length] at HOJ
          obtain ⟨p7, c7, rfl⟩ := owns_form HOJ.out
          have K4 : Hid (K2 w wr (fun x => x = A ∨ (Value.slice p N.length cp).ownBlock = some x ∨ (Value.slice p7 N.length c7).ownBlock = some x) b b2 most s1 s2 (2 * k) l l) := K3.out.keep HBJ.out (fun x hx => hx.elim (fun h => .inl (.inl h)) (fun h => h.elim (fun h => .inl (.inr h)) (fun h => .inr (HOJ.out.lt x h))))
          have BX4 : Hid (Blk wr A 47 #[.int .i64 a, .int .i64 n, .string S]) := Blk.below BX.out HBJ.out (Blk.lt BX.out)
          have R4 : Hid (ActsOf wr (some ⟨blk, off, none⟩) L) := R3.out.below HBJ.out
          have OU : Hid (wr.ownsRow 0 9 1 (.slice p N.length cp) N.length (N.map encStr)) := ownsRow_below O3.out HBJ.out
          have OV : Hid (wr.ownsRow 0 3 1 (.slice p7 N.length c7) N.length ((numL l N).map (Value.int .i64))) := ownsRow_low HOJ.out (Nat.zero_le _)
          clear HJ HBJ HOJ BF O3 R3 BX K3
          have hc0 := Blk.cell BX4.out 0
          have hc1 := Blk.cell BX4.out 1
          have hc2 := Blk.cell BX4.out 2
          simp only [List.getElem?_toArray, List.getElem?_cons_zero, List.getElem?_cons_succ] at hc0 hc1 hc2
          go_upto_if 113 with (fail)
          obtain ⟨SX, hSX⟩ : ∃ SX : Nat → Prop, SX = (fun x => x = A ∨ (Value.slice p N.length cp).ownBlock = some x ∨ (Value.slice p7 N.length c7).ownBlock = some x) := ⟨_, rfl⟩
          rw [← hSX] at K4
          have HSX := Lib.hid hSX
          have SA : Hid (SX A) := by rw [hSX]; exact .inl rfl
          have SU : Hid (∀ x, (Value.slice p N.length cp).ownBlock = some x → SX x) := by rw [hSX]; exact fun x h => .inr (.inl h)
          have SV : Hid (∀ x, (Value.slice p7 N.length c7).ownBlock = some x → SX x) := by rw [hSX]; exact fun x h => .inr (.inr h)
          clear hSX HSX R4
          obtain ⟨l', hl'⟩ : ∃ l', stepA most l (a, n, S) = l' := ⟨_, rfl⟩
          have HL' := Lib.hid hl'
          clear hl'
          go_cut [] (fun wx => K2 w wx SX b b2 most s1 s2 (2 * k + 2) l' l' ∧ Only (fun g => ¬ SX g) wr wx)
          case first =>
            by_cases h0 : a = 0
            · subst h0
              have e1 : Hid ((addM most l S.data.toList).1 = l') := by rw [← HL'.out]; unfold Hid stepA; rw [if_pos rfl]
              go_wp2_with fail
              refine (K4.out.add hm hm2 (by omega) (by omega) S (by omega)).mono ?_
              rintro e w8 ⟨rfl, k8, o8⟩
              have BX8 := Blk.only BX4.out o8 (fun h => h SA.out)
              have hd2 := Blk.cell BX8 2
              simp only [List.getElem?_toArray, List.getElem?_cons_zero, List.getElem?_cons_succ] at hd2
              have HK8 := Lib.hid (k8.swap.adds hm hm2 (by omega) (by omega) S (by omega) (addM most l S.data.toList).2.1 (addM most l S.data.toList).2.2 (addM most l S.data.toList).1 rfl)
              have HO8 := Lib.hid o8
              rw [e1.out] at HK8
              generalize (addM most l S.data.toList).2.1 = N1 at *
              generalize (addM most l S.data.toList).2.2 = E1 at *
              clear k8 o8 K4 BX8 BX4 hc0 hc1 hc2
              go_wp2_with fail
              refine HK8.out.mono ?_
              rintro e w9 ⟨rfl, k9, o9⟩
              have K9 := Lib.hid k9
              have O9 := Lib.hid (HO8.out.trans o9 (fun g h => .inl h))
              clear k9 o9 HK8 HO8
              go_wp2_with fail
              go_meet
              exact ⟨K9.out.swap.grow (by omega), O9.out⟩
            · by_cases h1 : a = 1
              · subst h1
                have e1 : Hid ((relM l n).1 = l') := by rw [← HL'.out]; unfold Hid stepA; rw [if_neg (show ¬ (1 : Int) = 0 by decide), if_pos rfl]
                go_wp2_with fail
                refine (K4.out.rel hm (by omega) n).mono ?_
                rintro e w8 ⟨rfl, k8, o8⟩
                have BX8 := Blk.only BX4.out o8 (fun h => h SA.out)
                have hd1 := Blk.cell BX8 1
                simp only [List.getElem?_toArray, List.getElem?_cons_zero, List.getElem?_cons_succ] at hd1
                have HK8 := Lib.hid (k8.swap.frees hm (by omega) n (relM l n).2.1 (relM l n).2.2 (relM l n).1 rfl)
                have HO8 := Lib.hid o8
                rw [e1.out] at HK8
                generalize (relM l n).2.1 = N1 at *
                generalize (relM l n).2.2 = E1 at *
                clear k8 o8 K4 BX8 BX4 hc0 hc1 hc2
                go_wp2_with fail
                refine HK8.out.mono ?_
                rintro e w9 ⟨rfl, k9, o9⟩
                have K9 := Lib.hid k9
                have O9 := Lib.hid (HO8.out.trans o9 (fun g h => .inl h))
                clear k9 o9 HK8 HO8
                go_wp2_with fail
                go_meet
                exact ⟨K9.out.swap.grow (by omega), O9.out⟩
              · have e1 : Hid (l = l') := by rw [← HL'.out]; unfold Hid stepA; rw [if_neg h0, if_neg h1]
                go_wp2_with fail
                go_meet
                refine ⟨?_, Only.refl _ _⟩
                rw [← e1.out]
                exact K4.out.grow (by omega)
          case rest =>
            obtain ⟨k5, o5⟩ := hcut
            have K5 := Lib.hid k5
            have OU5 := Lib.hid (ownsRow_only OU.out o5 (fun x hx h => h (SU.out x hx)))
            have OV5 := Lib.hid (ownsRow_only OV.out o5 (fun x hx h => h (SV.out x hx)))
            have KL := Lib.hid (k5.len hm)
            have hg3 : (l'.length : Int) ≤ max g (liveN l' : Nat) := by
              rw [← HL'.out]
              exact stepA_len (a, n, S) HG.out
            have hlv : liveN l' ≤ 65536 := by
              have h1 := liveN_le l'
              have h2 := k5.wf.size
              omega
            have HW := Lib.hid K4.out.wf
            clear k5 o5 OU OV K4 BX4 hc0 hc1 hc2 SA SU SV HG
            go_wp2_with fail
            refine KL.out.mono ?_
            rintro e w6 ⟨rfl, b6⟩
            have K6 := Lib.hid (K5.out.quiet b6)
            have OU6 := Lib.hid (ownsRow_below OU5.out b6)
            have OV6 := Lib.hid (ownsRow_below OV5.out b6)
            clear KL K5 OU5 OV5 b6
            go_wp2_with fail
            have hg4 : max g (liveN l' : Nat) ≤ 65536 := by omega
            generalize max g ((liveN l' : Nat) : Int) = g' at *
            have HG3 := Lib.hid hg3
            clear hg3 hlv hg2
            go_loopg [27] N.length (fun r i wx => ∃ j : Nat, j ≤ N.length ∧ r + j = N.length ∧ i = .int .i64 j ∧ Below w6.heap.size w6 wx)
            case atStart => exact ⟨0, by omega, by omega, rfl, Below.refl _ _⟩
            case round =>
              obtain ⟨j, hj, hr, rfl, hbx⟩ := hrel
              have HJ := Lib.hid hr
              have HBJ := Lib.hid hbx
              clear hr hbx
              by_cases hlj : j < N.length
              · obtain ⟨x, hx⟩ : ∃ x, N[j]? = some x := ⟨N[j], List.getElem?_eq_getElem hlj⟩
                obtain ⟨n0, hf0, hv0, hl0, ht0⟩ := HNF.out x (List.mem_of_getElem? hx)
                have hx64 : x.length ≤ 64 := by unfold validB at hv0; simp at hv0; omega
                have hst : findN l' x = some n0 ∨ findN l' x = none := by rw [← HL'.out]; exact stepA_stays HW.out (by omega) (a, n, S) hf0
                obtain ⟨g5, cp5, he, _, _⟩ := OU6.out.form (by omega)
                injection he with he1 _ he3
                subst he1 he3
                obtain ⟨g7, cp7, he, _, _⟩ := OV6.out.form (by omega)
                injection he with he1 _ he3
                subst he1 he3
                have hcx := ((ownsRow_below OU6.out HBJ.out).cellAt j (by omega)).trans (encStr_getElem N j x hx)
                have hnm : ((numL l N).map (Value.int .i64))[j]? = some (.int .i64 (n0 : Int)) := by
                  unfold numL
                  rw [List.map_map, List.getElem?_map, hx]
                  simp [hf0, idxI]
                have KX := Lib.hid (K6.out.quiet HBJ.out)
                have HFI := Lib.hid (KX.out.find hm ⟨x.toArray⟩ (by show x.toArray.size ≤ _; simp; omega))
                rw [show (⟨x.toArray⟩ : ByteArray).data.toList = x from rfl] at HFI
                obtain ⟨XS, hXS⟩ : ∃ XS : ByteArray, ⟨x.toArray⟩ = XS := ⟨_, rfl⟩
                rw [hXS] at hcx HFI
                rcases hst with hst | hst
                · have HFM : findM l' x = ((n0 : Int), 0) := by unfold findM; rw [if_pos hv0, hst]
                  rw [HFM] at HFI
                  have hn0 : (n0 : Int) < g' := by have := findN_len hst; have := HG3.out; omega
                  have HNM := Lib.hid hnm
                  clear hf0 hv0 hl0 ht0 hx hst HFM hXS hnm
                  go_wp2_with fail
                  refine HFI.out.mono ?_
                  rintro e w8 ⟨rfl, b8⟩
                  have hc7 := ((ownsRow_below (ownsRow_below OV6.out HBJ.out) b8).cellAt j (by omega)).trans HNM.out
                  have HB8 : Hid (Below w6.heap.size w6 w8) := HBJ.out.trans (b8.mono HBJ.out.size)
                  clear HFI b8 HBJ KX
                  go_wp2_with fail
                  go_roundg (gk - 1)
                  case measure => have := HJ.out; omega
                  case rel => exact ⟨j + 1, by omega, by have := HJ.out; omega, by go_num, HB8.out⟩
                · have HFM : findM l' x = (0, 9) := by unfold findM; rw [if_pos hv0, hst]
                  rw [HFM] at HFI
                  clear hf0 hv0 hl0 ht0 hx hst HFM hXS hnm
                  go_wp2_with fail
                  refine HFI.out.mono ?_
                  rintro e w8 ⟨rfl, b8⟩
                  have HB8 : Hid (Below w6.heap.size w6 w8) := HBJ.out.trans (b8.mono HBJ.out.size)
                  clear HFI b8 HBJ KX
                  go_wp2_with fail
                  go_roundg (gk - 1)
                  case measure => have := HJ.out; omega
                  case rel => exact ⟨j + 1, by omega, by have := HJ.out; omega, by go_num, HB8.out⟩
              · obtain rfl : j = N.length := by omega
                have K7 := Lib.hid (K6.out.quiet HBJ.out)
                clear K6 HJ HNF HBJ OU6 OV6
                have KL1 := Lib.hid (K7.out.list hm)
                go_wp2_with fail
                refine KL1.out.mono ?_
                rintro e w8 ⟨p8, q8, rfl, o8, b8⟩
                have K8 := Lib.hid (K7.out.quiet b8)
                have O8 := Lib.hid o8
                clear o8 b8 KL1 K7
                have KL2 := Lib.hid (K8.out.swap.list hm)
                go_wp2_with fail
                refine KL2.out.mono ?_
                rintro e w9 ⟨p9, q9, rfl, o9, b9⟩
                have K9 := Lib.hid (K8.out.quiet b9)
                have hNl' : (namesL l').length ≤ 1000000 := by
                  have h1 := namesL_len l'
                  have h2 := liveN_le l'
                  have h3 := K9.out.wf.size
                  omega
                have HST := Lib.hid (strings_any (.slice p8 (namesL l').length q8) (.slice p9 (namesL l').length q9) (namesL l') w9
                  (Reads.of_own (by rw [List.length_map]; exact ownsRow_below O8.out b9) (by rw [List.length_map]; omega)) (Reads.of_own (by rw [List.length_map]; exact o9) (by rw [List.length_map]; omega)))
                generalize (namesL l').length = NL at *
                clear o9 b9 KL2 K8 O8
                go_wp2_with fail
                refine HST.out.mono ?_
                rintro e w10 ⟨rfl, b10⟩
                have K10 : Hid (K2 w w10 (fun _ => False) b b2 most s1 s2 (2 * (k + 1 : Nat)) l' l') := (K9.out.keep b10 (fun _ h => h.elim)).grow (by omega)
                have R10 : Hid (ActsOf w10 (some ⟨blk, off, none⟩) L) := HRR.out.below (K10.out.bel)
                clear HST b10 K9
                go_wp2_with fail
                go_roundg (GK - 1)
                case measure => have := HR.out; have := HGK.out; omega
                case rel => exact ⟨k + 1, g', l', by omega, by have := HR.out; have := HGK.out; omega, by go_num, rfl, HG3.out, hg4, K10.out, R10.out⟩
    · go_wp2_with fail
      refine (known_any _).mono ?_
      rintro e w6 ⟨rfl, b6⟩
      have K6 := Lib.hid (K1.out.quiet b6)
      clear b6 K1
      go_wp2_with fail
      go_ret
      exact ⟨rfl, K6.out.bel⟩
set_option maxHeartbeats 2000000 in
set_option maxRecDepth 100000 in
theorem holds_known (most : Int) (q : Option Addr) (cap N : Nat) (s1 s2 : Int) (w : World) (h : most < 1 ∨ 65536 < most ∨ Hid (Calls Try.prog 18 #[.slice q N cap] w fun e w' => e = .returned (.bool false) ∧ w = w')) :
    Calls Try.prog 6 #[.int .i64 most, .slice q N cap, .int .u64 s1, .int .u64 s2] w fun e w' => e = .returned (.bool true) ∧ Below w.heap.size w w' := by
  by_cases h1 : most < 1
  · clear h
    go_enter Try.func6, Try.ntmps6
    go_wp2_with fail
    refine (known_any _).mono ?_
    rintro e w1 ⟨rfl, b1⟩
    go_wp2_with fail
    go_ret
    exact ⟨rfl, b1⟩
  · by_cases h2 : 65536 < most
    · clear h
      go_enter Try.func6, Try.ntmps6
      go_wp2_with fail
      refine (known_any _).mono ?_
      rintro e w1 ⟨rfl, b1⟩
      go_wp2_with fail
      go_ret
      exact ⟨rfl, b1⟩
    · have HF := (h.resolve_left h1).resolve_left h2
      clear h
      go_enter Try.func6, Try.ntmps6
      go_wp2_with (go_at_call 18; refine HF.out.mono ?_; rintro e w1 ⟨rfl, rfl⟩)
      refine (known_any _).mono ?_
      rintro e w1 ⟨rfl, b1⟩
      go_wp2_with fail
      go_ret
      exact ⟨rfl, b1⟩
theorem holds_walk (most : Int) (q : Option Addr) (cap : Nat) (L : List Ac) (s1 s2 : Int) (a0 : 0 ≤ s1) (a1 : s1 ≤ 18446744073709551615) (b0 : 0 ≤ s2) (b1 : s2 ≤ 18446744073709551615) (w : World) (hR : ActsOf w q L) :
    Calls Try.prog 6 #[.int .i64 most, .slice q L.length cap, .int .u64 s1, .int .u64 s2] w fun e w' => e = .returned (.bool true) ∧ Below w.heap.size w w' := by
  by_cases h1 : most < 1
  · exact holds_known most q cap L.length s1 s2 w (.inl h1)
  · by_cases h2 : 65536 < most
    · exact holds_known most q cap L.length s1 s2 w (.inr (.inl h2))
    · have hf := few_any q cap L w hR
      unfold FewP at hf
      rcases Bool.eq_false_or_eq_true (fewR L) with hb | hb
      · rw [hb] at hf
        have hb := fewR_true hb
        exact holds_some most (by omega) (by omega) q cap L hb.1 hb.2 s1 s2 a0 a1 b0 b1 w hR (Lib.hid hf)
      · rw [hb] at hf
        exact holds_known most q cap L.length s1 s2 w (.inr (.inr (Lib.hid hf)))
end Go.Proofs.Ytanmihifkjhaaaa
