/- The law StatsHolds: it returns true. -/
import Derived.Test.YtjiefmihodfgpaaDoorStatM
import Derived.Test.YtjiefmihodfgpaaDoorStatHP
namespace Go.Proofs.YtjiefmihodfgpaaDoor
set_option linter.unusedVariables false
open Go.RowKit Go.Maps Go.Sort

/-- Within holds: the whole and the two parts. -/
structure Sh (w0 w : World) (a b c : Nat) (W A B : List Int) : Prop where
  laid : LaidS w
  ca : CntAt w a W
  cb : CntAt w b A
  cc : CntAt w c B
  ab : a ≠ b
  ac : a ≠ c
  bc : b ≠ c
  ga : w0.heap.size ≤ a
  gb : w0.heap.size ≤ b
  gc : w0.heap.size ≤ c
  g8 : 8 ≤ w0.heap.size
  ua : ∀ x ∈ W, isU x
  ub : ∀ x ∈ A, isU x
  uc : ∀ x ∈ B, isU x
  bel : Below w0.heap.size w0 w
section
variable {w0 w w' : World} {a b c : Nat} {W A B : List Int}
theorem CntAt.below {w w' : World} {b : Nat} {l : List Int} (h : CntAt w b l) (hb : Below w.heap.size w w') : CntAt w' b l := ⟨h.1, Blk.below h.2 hb (Blk.lt h.2)⟩
theorem CntAt.grown {w w' : World} {b g : Nat} {l : List Int} (h : CntAt w b l) (hg : w.grownBy w' (some g)) (hne : b ≠ g) : CntAt w' b l := ⟨h.1, Blk.grown h.2 hg (fun e => hne (by injection e))⟩
theorem Sh.quiet (s : Sh w0 w a b c W A B) (hb : Below w.heap.size w w') : Sh w0 w' a b c W A B :=
  ⟨s.laid.below hb s.laid.ge, s.ca.below hb, s.cb.below hb, s.cc.below hb, s.ab, s.ac, s.bc, s.ga, s.gb, s.gc, s.g8, s.ua, s.ub, s.uc, s.bel.trans (hb.mono s.bel.size)⟩
theorem Sh.swap (s : Sh w0 w a b c W A B) : Sh w0 w b a c A W B := ⟨s.laid, s.cb, s.ca, s.cc, s.ab.symm, s.bc, s.ac, s.gb, s.ga, s.gc, s.g8, s.ub, s.ua, s.uc, s.bel⟩
theorem Sh.swap2 (s : Sh w0 w a b c W A B) : Sh w0 w c b a B A W := ⟨s.laid, s.cc, s.cb, s.ca, s.bc.symm, s.ac.symm, s.ab.symm, s.gc, s.gb, s.ga, s.g8, s.uc, s.ub, s.ua, s.bel⟩
theorem Sh.note (s : Sh w0 w a b c W A B) {q : Option Addr} {L : List (Rp × List Int)} (hR : RespsAt w0 q L) {k : Nat} {R : Rp} {ms : List Int} (hX : L[k]? = some (R, ms)) (hl : ms.length ≤ 1000) :
    Calls Tryd.prog 16 #[.pointer (some ⟨a, 0, none⟩), .agg (rcs R ms.length)] w fun e w' => e = .returned (.int .i64 (noteE R.op R.cnt ms)) ∧ Sh w0 w' a b c (noteR W R.op R.err R.cnt ms).1 A B := by
  obtain ⟨_, _, _, _, _, _, hix, hcn⟩ := ((RespsIn.of_at hR s.ga).below s.bel) k _ hX
  refine (note_any a W ms R hl s.ua w s.ca hix s.laid (Nat.le_trans s.g8 s.ga) hcn).mono ?_
  rintro e w' ⟨rfl, hc, hg⟩
  refine ⟨by rw [noteR_snd], ?_⟩
  exact ⟨s.laid.grown hg (Nat.le_trans s.g8 s.ga), hc, s.cb.grown hg s.ab.symm, s.cc.grown hg s.ac.symm, s.ab, s.ac, s.bc, s.ga, s.gb, s.gc, s.g8, noteR_is s.ua R.op R.err hcn ms hl, s.ub, s.uc, Below.only s.bel hg s.bel.size s.ga⟩
theorem Sh.six (s : Sh w0 w a b c W A B) {blk off : Nat} {L : List (Rp × List Int)} (hR : RespsAt w0 (some ⟨blk, off, none⟩) L) {k : Nat} {R : Rp} {ms : List Int} (hX : L[k]? = some (R, ms)) :
    w.cell? ⟨blk, off + k * 6, none⟩ = some (.int .i64 R.op) ∧ w.cell? ⟨blk, off + k * 6 + 1, none⟩ = some (.int .i64 R.err) ∧ w.cell? ⟨blk, off + k * 6 + 2, none⟩ = some (.slice R.p ms.length R.cap) ∧ w.cell? ⟨blk, off + k * 6 + 3, none⟩ = some (.int .u64 R.ver) ∧ w.cell? ⟨blk, off + k * 6 + 4, none⟩ = some (.int .i64 R.cnt) ∧ w.cell? ⟨blk, off + k * 6 + 5, none⟩ = some (.slice R.q R.n2 R.c2) := by
  obtain ⟨blk', off', hq, _, _, hcx, _, _⟩ := ((RespsIn.of_at hR s.ga).below s.bel) k _ hX
  injection hq with hq
  injection hq with hq1 hq2 _
  subst hq1 hq2
  exact ⟨hcx 0 (by decide), hcx 1 (by decide), hcx 2 (by decide), hcx 3 (by decide), hcx 4 (by decide), hcx 5 (by decide)⟩
end
/-- Within the end of holds: the lists. -/
structure Se (w0 w : World) (v1 v2 vs vb : Value) (W A : List Int) : Prop where
  laid : LaidS w
  r1 : Reads w v1 (u64s W)
  r2 : Reads w v2 (u64s A)
  rs : Reads w vs (u64s W)
  rb : Reads w vb (u64s A)
  bel : Below w0.heap.size w0 w
theorem Se.quiet {w0 w w' : World} {v1 v2 vs vb : Value} {W A : List Int} (s : Se w0 w v1 v2 vs vb W A) (hb : Below w.heap.size w w') : Se w0 w' v1 v2 vs vb W A :=
  ⟨s.laid.below hb s.laid.ge, s.r1.below hb, s.r2.below hb, s.rs.below hb, s.rb.below hb, s.bel.trans (hb.mono s.bel.size)⟩
theorem Se.four {w0 w : World} {g cap : Nat} {v2 vs vb : Value} {W A : List Int} (s : Se w0 w (.slice (some ⟨g, 0, none⟩) 16 cap) v2 vs vb W A) (h16 : W.length = 16) :
    w.cell? ⟨g, 2, none⟩ = some (.int .u64 (W.getD 2 0)) ∧ w.cell? ⟨g, 3, none⟩ = some (.int .u64 (W.getD 3 0)) ∧ w.cell? ⟨g, 4, none⟩ = some (.int .u64 (W.getD 4 0)) ∧ w.cell? ⟨g, 5, none⟩ = some (.int .u64 (W.getD 5 0)) := by
  obtain ⟨p, c, e, _, h⟩ := s.r1
  rcases h with h | ⟨blk, off, hp, _, _, hc⟩
  · rw [List.length_map, h16] at h; cases h
  · injection e with e _ _
    rw [hp] at e
    injection e with e
    injection e with e1 e2 _
    subst e1 e2
    have key : ∀ i, i < 16 → w.cell? ⟨g, 0 + i, none⟩ = some (.int .u64 (W.getD i 0)) := fun i hi => by
      refine hc i _ (u64s_get ?_)
      rw [List.getD_eq_getElem?_getD, List.getElem?_eq_getElem (by omega)]
      rfl
    exact ⟨key 2 (by decide), key 3 (by decide), key 4 (by decide), key 5 (by decide)⟩

theorem get_of {l : List Int} (h : l.length = 16) {i : Nat} (hi : i < 16) : l[i]? = some (l.getD i 0) := by
  rw [List.getD_eq_getElem?_getD, List.getElem?_eq_getElem (by omega)]
  rfl
theorem Inv.sum_is {k : Nat} {W A B : List Int} (h : Inv k W A B) (hk : k ≤ 1000) : sumOf A B = (W, 0) := by
  unfold sumOf
  rw [if_pos ⟨h.la.1, h.lb.1⟩]
  have e : addL A B = W := by
    refine list_eq_of (by rw [addL_len h.la.1 h.lb.1, h.lw]) (fun i hi => ?_)
    rw [addL_len h.la.1 h.lb.1] at hi
    have h1 := h.la.2 i hi
    have h2 := h.lb.2 i hi
    have hp : plus64 (A.getD i 0) (B.getD i 0) = A.getD i 0 + B.getD i 0 := by unfold plus64; rw [if_pos (by omega)]
    unfold addL
    rw [zip_get (get_of h.la.1 hi) (get_of h.lb.1 hi), get_of h.lw hi, h.sum i hi, hp]
  rw [e]
theorem Inv.less_is {k : Nat} {W A B : List Int} (h : Inv k W A B) (hk : k ≤ 1000) : lessOf W B = (A, 0) := by
  have hf : fits W B = true := fits_true (fun i x y hx hy => by
    have hi : i < 16 := by rw [← h.lw]; exact (List.getElem?_eq_some_iff.1 hx).1
    rw [get_of h.lw hi] at hx
    rw [get_of h.lb.1 hi] at hy
    injection hx with hx
    injection hy with hy
    have h1 := h.la.2 i hi
    have := h.sum i hi
    omega)
  unfold lessOf
  rw [if_pos ⟨h.lw, h.lb.1⟩, if_pos hf]
  have e : subL W B = A := by
    refine list_eq_of (by rw [subL_len h.lw h.lb.1, h.la.1]) (fun i hi => ?_)
    rw [subL_len h.lw h.lb.1] at hi
    unfold subL
    rw [zip_get (get_of h.lw hi) (get_of h.lb.1 hi), get_of h.la.1 hi]
    have := h.sum i hi
    congr 1
    omega
  rw [e]
set_option maxHeartbeats 2000000 in
set_option maxRecDepth 100000 in
theorem holds_some (q : Option Addr) (cap : Nat) (L : List (Rp × List Int)) (hf : L.length ≤ 40 ∧ ∀ X ∈ L, X.2.length ≤ 20) (at_ : Int) (ha0 : 0 ≤ at_) (ha1 : at_ ≤ 255) (w : World) (hR : RespsAt w q L) (hL : LaidS w)
    (HF : Hid (Calls Tryd.prog 14 #[.slice q L.length cap] w fun e w' => e = .returned (.bool true) ∧ w = w')) :
    Calls Tryd.prog 4 #[.slice q L.length cap, .int .u8 at_] w fun e w' => e = .returned (.bool true) ∧ Below w.heap.size w w' := by
  have HRS := Lib.hid hR
  have HL := Lib.hid hL
  have HLE := Lib.hid hf
  clear hR hL hf
  go_enter Tryd.func4, Tryd.ntmps4
  go_wp2_with fail
  refine HF.out.mono ?_
  rintro e w1 ⟨rfl, rfl⟩
  clear HF
  go_wp2_with fail
  refine (new_any _).mono ?_
  rintro e w1 ⟨rfl, ca1, b1⟩
  go_wp2_with fail
  refine (new_any _).mono ?_
  rintro e w2 ⟨rfl, cb2, b2⟩
  go_wp2_with fail
  refine (new_any _).mono ?_
  rintro e w3 ⟨rfl, cc3, b3⟩
  have hlt1 := Blk.lt ca1.2
  have hlt2 := Blk.lt cb2.2
  have hs1 := b1.size
  have hs2 := b2.size
  have hbel : Below w.heap.size w w3 := (b1.trans (b2.mono hs1)).trans (b3.mono (Nat.le_trans hs1 hs2))
  have hZ : ∀ x ∈ List.replicate 16 (0 : Int), isU x := knZ_is
  have s0 : Sh w w3 w.heap.size w1.heap.size w2.heap.size (List.replicate 16 0) (List.replicate 16 0) (List.replicate 16 0) :=
    ⟨HL.out.below hbel HL.out.ge, (ca1.below b2).below b3, cb2.below b3, cc3, by omega, by omega, by omega, Nat.le_refl _, hs1, Nat.le_trans hs1 hs2, HL.out.ge, hZ, hZ, hZ, hbel⟩
  clear ca1 b1 cb2 b2 cc3 b3 hbel hZ hlt1 hlt2 hs1 hs2
  obtain ⟨b, hb⟩ : ∃ b, w1.heap.size = b := ⟨_, rfl⟩
  obtain ⟨c, hc⟩ : ∃ c, w2.heap.size = c := ⟨_, rfl⟩
  obtain ⟨a, ha⟩ : ∃ a, w.heap.size = a := ⟨_, rfl⟩
  rw [hb, hc, ha] at s0
  simp only [hb, hc, ha]
  have HAE := Lib.hid ha
  clear hb hc ha
  have S0 := Lib.hid s0
  clear s0
  go_wp2_with fail
  go_loopw [8] (fun i wr => ∃ (k : Nat) (W A B : List Int), k ≤ L.length ∧ i = .int .i64 k ∧ Inv k W A B ∧ Sh w wr a b c W A B) (fun i _ => L.length - (intOf i).toNat)
  case atStart => exact ⟨0, _, _, _, by omega, rfl, Inv.start, S0.out⟩
  case round =>
    clear S0
    obtain ⟨k, W, A, B, hk, rfl, hinv, s⟩ := hrel
    have hk40 := HLE.out.1
    by_cases hlt : k < L.length
    · obtain ⟨X, hX⟩ : ∃ X, L[k]? = some X := ⟨L[k], List.getElem?_eq_getElem hlt⟩
      have h20 := HLE.out.2 X (List.mem_of_getElem? hX)
      obtain ⟨R, ms⟩ := X
      obtain ⟨blk, off, hq, _⟩ := HRS.out k _ hX
      subst hq
      simp only at h20
      obtain ⟨c0, c1, c2, c3, c4, c5⟩ := s.six HRS.out hX
      by_cases hcn : 4294967296 < R.cnt
      · have hLs := s.laid
        have hBs := s.bel
        clear s hX hinv
        go_wp2_with fail
        refine (known_any _ hLs).mono ?_
        rintro e w9 ⟨rfl, b9⟩
        go_wp2_with fail
        go_ret
        exact ⟨rfl, hBs.trans (b9.mono hBs.size)⟩
      · have HXX := Lib.hid hX
        have sd := s.quiet (below_drewN (Below.refl _ _) 1)
        change Sh w wr.drew a b c W A B at sd
        by_cases hat : at_ ≤ k
        · have HI := Lib.hid (hinv.second (by omega) R.op R.err R.cnt (by omega) ms h20)
          have HN1 := Lib.hid (sd.note HRS.out hX (by omega))
          have HN2 : Hid (∀ w2, Sh w w2 a b c (noteR W R.op R.err R.cnt ms).1 A B → Calls Tryd.prog 16 #[.pointer (some ⟨c, 0, none⟩), .agg (rcs R ms.length)] w2 fun e w' => e = .returned (.int .i64 (noteE R.op R.cnt ms)) ∧ Sh w w' a b c (noteR W R.op R.err R.cnt ms).1 A (noteR B R.op R.err R.cnt ms).1) :=
            fun w2 s2 => (s2.swap2.note HRS.out hX (by omega)).mono fun _ _ h => ⟨h.1, h.2.swap2⟩
          generalize (noteR W R.op R.err R.cnt ms).1 = NW at *
          generalize (noteR B R.op R.err R.cnt ms).1 = NB at *
          generalize noteE R.op R.cnt ms = ne at *
          clear hX hinv s sd
          go_wp2_with fail
          go_region_held3 (fun w' => w'.cell? ⟨blk, off + k * 6, none⟩ = some (.int .i64 R.op) ∧ w'.cell? ⟨blk, off + k * 6 + 1, none⟩ = some (.int .i64 R.err) ∧ w'.cell? ⟨blk, off + k * 6 + 2, none⟩ = some (.slice R.p ms.length R.cap) ∧ w'.cell? ⟨blk, off + k * 6 + 3, none⟩ = some (.int .u64 R.ver) ∧ w'.cell? ⟨blk, off + k * 6 + 4, none⟩ = some (.int .i64 R.cnt) ∧ w'.cell? ⟨blk, off + k * 6 + 5, none⟩ = some (.slice R.q R.n2 R.c2)) (go_keep) (first
            | (go_at_call_of 16 (Value.pointer (some ⟨a, 0, none⟩)); refine HN1.out.mono ?_; rintro e w5 ⟨rfl, s5⟩; obtain ⟨k0, k1, k2, k3, k4, k5⟩ := s5.six HRS.out HXX.out)
            | (go_at_call 16; refine (HN2.out _ s5).mono ?_; rintro e w6 ⟨rfl, s6⟩; obtain ⟨j0, j1, j2, j3, j4, j5⟩ := s6.six HRS.out HXX.out))
          all_goals
            clear HN1 HN2
            have S6 := Lib.hid s6
            clear s6 s5
            go_wp2_with fail
            go_roundw
            case rel => exact ⟨k + 1, _, _, _, by omega, by go_num, HI.out, S6.out⟩
            case measure => simp [intOf]; omega
        · have HI := Lib.hid (hinv.first (by omega) R.op R.err R.cnt (by omega) ms h20)
          have HN1 := Lib.hid (sd.note HRS.out hX (by omega))
          have HN2 : Hid (∀ w2, Sh w w2 a b c (noteR W R.op R.err R.cnt ms).1 A B → Calls Tryd.prog 16 #[.pointer (some ⟨b, 0, none⟩), .agg (rcs R ms.length)] w2 fun e w' => e = .returned (.int .i64 (noteE R.op R.cnt ms)) ∧ Sh w w' a b c (noteR W R.op R.err R.cnt ms).1 (noteR A R.op R.err R.cnt ms).1 B) :=
            fun w2 s2 => (s2.swap.note HRS.out hX (by omega)).mono fun _ _ h => ⟨h.1, h.2.swap⟩
          generalize (noteR W R.op R.err R.cnt ms).1 = NW at *
          generalize (noteR A R.op R.err R.cnt ms).1 = NA at *
          generalize noteE R.op R.cnt ms = ne at *
          clear hX hinv s sd
          go_wp2_with fail
          go_region_held3 (fun w' => w'.cell? ⟨blk, off + k * 6, none⟩ = some (.int .i64 R.op) ∧ w'.cell? ⟨blk, off + k * 6 + 1, none⟩ = some (.int .i64 R.err) ∧ w'.cell? ⟨blk, off + k * 6 + 2, none⟩ = some (.slice R.p ms.length R.cap) ∧ w'.cell? ⟨blk, off + k * 6 + 3, none⟩ = some (.int .u64 R.ver) ∧ w'.cell? ⟨blk, off + k * 6 + 4, none⟩ = some (.int .i64 R.cnt) ∧ w'.cell? ⟨blk, off + k * 6 + 5, none⟩ = some (.slice R.q R.n2 R.c2)) (go_keep) (first
            | (go_at_call_of 16 (Value.pointer (some ⟨a, 0, none⟩)); refine HN1.out.mono ?_; rintro e w5 ⟨rfl, s5⟩; obtain ⟨k0, k1, k2, k3, k4, k5⟩ := s5.six HRS.out HXX.out)
            | (go_at_call 16; refine (HN2.out _ s5).mono ?_; rintro e w6 ⟨rfl, s6⟩; obtain ⟨j0, j1, j2, j3, j4, j5⟩ := s6.six HRS.out HXX.out))
          all_goals
            clear HN1 HN2
            have S6 := Lib.hid s6
            clear s6 s5
            go_wp2_with fail
            go_roundw
            case rel => exact ⟨k + 1, _, _, _, by omega, by go_num, HI.out, S6.out⟩
            case measure => simp [intOf]; omega
    · obtain rfl : k = L.length := by omega
      have HAdd : Hid (∀ (va vb : Value) (w : World), Reads w va (u64s A) → Reads w vb (u64s B) → Calls Tryd.prog 18 #[va, vb] w fun e w' => Gives w w' e (W, 0)) := fun va vb w ra rb => hinv.sum_is (by omega) ▸ add_any va vb A B s.ub s.uc w ra rb
      have HSub : Hid (∀ (va vb : Value) (w : World), Reads w va (u64s W) → Reads w vb (u64s B) → Calls Tryd.prog 19 #[va, vb] w fun e w' => Gives w w' e (A, 0)) := fun va vb w ra rb => hinv.less_is (by omega) ▸ sub_any va vb W B s.ua s.uc w ra rb
      have H16W := Lib.hid hinv.lw
      have H16A := Lib.hid hinv.la.1
      have H16B := Lib.hid hinv.lb.1
      have HIT := Lib.hid hinv.items
      have HLW := Lib.hid (hinv.lew.2)
      have S := Lib.hid s
      have HN1 := Lib.hid (numbers_any a W wr s.ca)
      clear hinv s hlt hk
      go_wp2_with fail
      refine HN1.out.mono ?_
      rintro e w4 ⟨v1, rfl, o1, b4⟩
      have S4 := Lib.hid (S.out.quiet b4)
      have O1 := Lib.hid o1
      have HN2 := Lib.hid (numbers_any b A w4 S4.out.cb)
      clear HN1 o1 b4 S
      go_wp2_with fail
      refine HN2.out.mono ?_
      rintro e w5 ⟨v2, rfl, o2, b5⟩
      have S5 := Lib.hid (S4.out.quiet b5)
      have O1 := Lib.hid (ownsRow_below O1.out b5)
      have O2 := Lib.hid o2
      have HN3 := Lib.hid (numbers_any c B w5 S5.out.cc)
      clear HN2 o2 b5 S4
      go_wp2_with fail
      refine HN3.out.mono ?_
      rintro e w6 ⟨v3, rfl, o3, b6⟩
      have S6 := Lib.hid (S5.out.quiet b6)
      have R1 := Lib.hid (reads_of_own (ownsRow_below O1.out b6) (by rw [H16W.out]; decide))
      have R2 := Lib.hid (reads_of_own (ownsRow_below O2.out b6) (by rw [H16A.out]; decide))
      have R3 := Lib.hid (reads_of_own o3 (by rw [H16B.out]; decide))
      obtain ⟨g, gc, he, _, _⟩ := O1.out.form (by rw [H16W.out]; decide)
      rw [H16W.out] at he
      rw [he]
      rw [he] at R1
      have HN4 := Lib.hid (HAdd.out v2 v3 w6 R2.out R3.out)
      clear HN3 o3 b6 S5 O1 O2 he HAdd
      go_wp2_with fail
      refine HN4.out.mono ?_
      rintro e w7 ⟨vs, rfl, o7, b7⟩
      have S7 := Lib.hid (S6.out.quiet b7)
      have RS := Lib.hid (reads_of_own o7 (by simp only [H16W.out]; decide))
      have R1 := Lib.hid (R1.out.below b7)
      have R2 := Lib.hid (R2.out.below b7)
      have R3 := Lib.hid (R3.out.below b7)
      have HN5 := Lib.hid (HSub.out _ v3 w7 R1.out R3.out)
      clear HN4 o7 b7 S6 HSub
      go_wp2_with fail
      refine HN5.out.mono ?_
      rintro e w8 ⟨vb, rfl, o8, b8⟩
      have S8 := S7.out.quiet b8
      have RB := reads_of_own o8 (by simp only [H16A.out]; decide)
      have se : Se w w8 (.slice (some ⟨g, 0, none⟩) 16 gc) v2 vs vb W A := ⟨S8.laid, R1.out.below b8, R2.out.below b8, RS.out.below b8, RB, S8.bel⟩
      clear HN5 o8 b8 S7 R1 R2 R3 RS RB S8
      have sd := se.quiet (below_drewN (Below.refl _ _) 1)
      change Se w w8.drew (.slice (some ⟨g, 0, none⟩) 16 gc) v2 vs vb W A at sd
      clear se
      obtain ⟨x2, hx2⟩ : ∃ x, W.getD 2 0 = x := ⟨_, rfl⟩
      obtain ⟨x3, hx3⟩ : ∃ x, W.getD 3 0 = x := ⟨_, rfl⟩
      obtain ⟨x4, hx4⟩ : ∃ x, W.getD 4 0 = x := ⟨_, rfl⟩
      obtain ⟨x5, hx5⟩ : ∃ x, W.getD 5 0 = x := ⟨_, rfl⟩
      have hb3 := HLW.out 3 (by decide)
      have hb4 := HLW.out 4 (by decide)
      have hb5 := HLW.out 5 (by decide)
      have hit := HIT.out
      have hfour : Hid (∀ w', Se w w' (.slice (some ⟨g, 0, none⟩) 16 gc) v2 vs vb W A → w'.cell? ⟨g, 2, none⟩ = some (.int .u64 x2) ∧ w'.cell? ⟨g, 3, none⟩ = some (.int .u64 x3) ∧ w'.cell? ⟨g, 4, none⟩ = some (.int .u64 x4) ∧ w'.cell? ⟨g, 5, none⟩ = some (.int .u64 x5)) := fun w' s => by
        have := s.four H16W.out
        rwa [hx2, hx3, hx4, hx5] at this
      rw [hx3] at hb3
      rw [hx4] at hb4
      rw [hx5] at hb5
      rw [hx2, hx3, hx4, hx5] at hit
      have q1 : IntKind.u64.wrap (x3 + x4) = x3 + x4 := wraps_u64 _ (by omega) (by omega)
      have q2 : IntKind.u64.wrap (x3 + x4 + x5) = x3 + x4 + x5 := wraps_u64 _ (by omega) (by omega)
      have q3 : (x2 == x3 + x4 + x5) = true := by rw [hit]; simp
      obtain ⟨c2, c3, c4, c5⟩ := hfour.out _ sd
      clear hx2 hx3 hx4 hx5 hb3 hb4 hb5 hit HIT HLW
      go_wp2_with fail
      go_region_held3 (fun w' => w'.cell? ⟨g, 2, none⟩ = some (.int .u64 x2) ∧ w'.cell? ⟨g, 3, none⟩ = some (.int .u64 x3) ∧ w'.cell? ⟨g, 4, none⟩ = some (.int .u64 x4) ∧ w'.cell? ⟨g, 5, none⟩ = some (.int .u64 x5)) (go_keep) (first
        | (go_at_call_of 20 vs; refine (ids_ok _ _ W _ sd.rs sd.r1).mono ?_; rintro e w10 ⟨rfl, b10⟩; have s10 := sd.quiet b10; obtain ⟨k2, k3, k4, k5⟩ := hfour.out _ s10)
        | (go_at_call_of 20 vb; refine (ids_ok _ _ A _ s10.rb s10.r2).mono ?_; rintro e w11 ⟨rfl, b11⟩; have s11 := s10.quiet b11; obtain ⟨j2, j3, j4, j5⟩ := hfour.out _ s11)
        | (go_at_call 8; refine (known_any _ s11.laid).mono ?_; rintro e w12 ⟨rfl, b12⟩; have s12 := s11.quiet b12; obtain ⟨i2, i3, i4, i5⟩ := hfour.out _ s12))
      all_goals
        have B12 := Lib.hid s12.bel
        clear sd s10 s11 s12 hfour
        go_wp2_with fail
        go_ret
        exact ⟨rfl, B12.out⟩
set_option maxHeartbeats 2000000 in
theorem holds_many (q : Option Addr) (cap m : Nat) (at_ : Int) (w : World) (hL : LaidS w)
    (HF : Hid (Calls Tryd.prog 14 #[.slice q m cap] w fun e w' => e = .returned (.bool false) ∧ w = w')) :
    Calls Tryd.prog 4 #[.slice q m cap, .int .u8 at_] w fun e w' => e = .returned (.bool true) ∧ Below w.heap.size w w' := by
  go_enter Tryd.func4, Tryd.ntmps4
  go_wp2_with fail
  refine HF.out.mono ?_
  rintro e w1 ⟨rfl, rfl⟩
  clear HF
  go_wp2_with fail
  refine (known_any _ hL).mono ?_
  rintro e w9 ⟨rfl, b9⟩
  go_wp2_with fail
  go_ret
  exact ⟨rfl, b9⟩
theorem holds_walk (q : Option Addr) (cap : Nat) (L : List (Rp × List Int)) (at_ : Int) (ha : 0 ≤ at_ ∧ at_ ≤ 255) (w : World) (hR : RespsAt w q L) (hL : LaidS w) :
    Calls Tryd.prog 4 #[.slice q L.length cap, .int .u8 at_] w fun e w' => e = .returned (.bool true) ∧ Below w.heap.size w w' := by
  have hf := few_any q cap L w hR
  unfold FewP at hf
  rcases Bool.eq_false_or_eq_true (fewR L) with hb | hb
  rotate_left
  · rw [hb] at hf
    exact holds_many q cap L.length at_ w hL (Lib.hid hf)
  · rw [hb] at hf
    exact holds_some q cap L (fewR_true hb) at_ ha.1 ha.2 w hR hL (Lib.hid hf)
end Go.Proofs.YtjiefmihodfgpaaDoor
