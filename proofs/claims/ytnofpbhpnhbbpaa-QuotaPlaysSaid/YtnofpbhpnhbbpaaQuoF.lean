/- Contract of Ask. -/
import Derived.Test.YtnofpbhpnhbbpaaQuoE
import Derived.Deep.CutBlock
namespace Go.Proofs.Ytnofpbhpnhbbpaa
set_option linter.unusedVariables false
open Go.RowKit Go.Maps Go.Sort

/-- What Ask returns and what is left in the book. -/
def askM (r : Rl) (tt : Nat) (m : List (List UInt8 × Acc)) (c : List UInt8) (k : Nat) : Bool × Int × List (List UInt8 × Acc) :=
  if allowsA r (accAt (mget accZ m c) (tt / r.P)) tt k = true then
    if mhas (tidyM r.P tt m) c = false ∧ 1000 ≤ (tidyM r.P tt m).length then (false, 7, tidyM r.P tt m)
    else (true, 0, mput (tidyM r.P tt m) c (accPlus (accAt (mget accZ m c) (tt / r.P)) k))
  else (false, 0, m)
set_option maxHeartbeats 1000000 in
set_option maxRecDepth 100000 in
theorem ask_nil (t : Nat) (s : ByteArray) (k : Int) (w : World) : Calls Try.prog 9 #[.pointer none, .int .u64 (t : Int), .string s, .int .i64 k] w fun e w' => e = .returned (.tuple #[.bool false, .int .i64 1]) ∧ w = w' := by
  go_enter Try.func9, Try.ntmps9
  go_wp2_with (go_at_call 22; refine (may_nil _ _ _ _).mono ?_; rintro e w' ⟨rfl, rfl⟩)
  go_ret2
  exact ⟨rfl, rfl⟩
set_option maxHeartbeats 1000000 in
set_option maxRecDepth 100000 in
theorem ask_bad (g b n : Nat) (r : Rl) (now : Nat) (m : List (List UInt8 × Acc)) (t : Nat) (s : ByteArray) (k : Int) (hs : s.size ≤ 140737488355328) (w : World) (h : Qb w g b n r now m) (hm : mayE t s.data.toList k ≠ 0) :
    Calls Try.prog 9 #[.pointer (some ⟨g, 0, none⟩), .int .u64 (t : Int), .string s, .int .i64 k] w fun e w' => e = .returned (.tuple #[.bool false, .int .i64 (mayE t s.data.toList k)]) ∧ w = w' := by
  have HM := Lib.hid (may_at g r now b t s k hs w h.bk)
  have hE : (mayE t s.data.toList k == 0) = false := by simpa using hm
  have hE2 : (mayE t s.data.toList k != 0) = true := by simpa using hm
  generalize mayE t s.data.toList k = E at HM hE hE2 ⊢
  clear h hm
  go_enter Try.func9, Try.ntmps9
  go_wp2_with (go_at_call 22; refine HM.out.mono ?_; rintro e w' ⟨rfl, rfl⟩)
  go_ret2
  exact ⟨rfl, rfl⟩
theorem Qb.setNow {w : World} {g b n : Nat} {r : Rl} {now : Nat} {m : List (List UInt8 × Acc)} (h : Qb w g b n r now m) (tt : Nat) : Qb (w.setCell ⟨g, 3, none⟩ (.int .u64 (tt : Int))) g b n r tt m :=
  ⟨by simpa [BkC] using Blk.set_ h.bk 3 (.int .u64 (tt : Int)), h.mp.kept (row := some g) (only_setCell (only_refl _ _) (.inl rfl) _) (by simp; exact fun e => h.ne e.symm)⟩
theorem Qb.far {w : World} {g b n z : Nat} {r : Rl} {now : Nat} {m : List (List UInt8 × Acc)} (h : Qb w g b n r now m) (hz : z ≠ g) (hz2 : z ≠ b) (o : Nat) (u : Value) : Qb (w.setCell ⟨z, o, none⟩ u) g b n r now m :=
  ⟨Blk.far h.bk (p := ⟨z, o, none⟩) (fun e => hz e.symm) u, h.mp.kept (row := some z) (only_setCell (p := ⟨z, o, none⟩) (only_refl _ (some z)) (.inl rfl) u) (fun e => hz2 (Option.some.inj e).symm)⟩
set_option maxHeartbeats 8000000 in
set_option maxRecDepth 100000 in
theorem ask_ok (g b n : Nat) (r : Rl) (now : Nat) (m : List (List UInt8 × Acc)) (hr : RlOk r) (t : Nat) (s : ByteArray) (k : Nat) (hs : s.size ≤ 140737488355328) (ht : max now t ≤ 9223372036854775808) (w : World) (h : Qb w g b n r now m) (hm : mayE t s.data.toList k = 0) (hn : n ≤ 1000000) :
    Calls Try.prog 9 #[.pointer (some ⟨g, 0, none⟩), .int .u64 (t : Int), .string s, .int .i64 (k : Int)] w fun e w' => e = .returned (.tuple #[.bool (askM r (max now t) m s.data.toList k).1, .int .i64 (askM r (max now t) m s.data.toList k).2.1]) ∧ Qb w' g b (n + 1) r (max now t) (askM r (max now t) m s.data.toList k).2.2 ∧ Only (fun i => i = g ∨ i = b) w w' := by
  have HM := Lib.hid (may_at g r now b t s k hs w h.bk)
  rw [hm] at HM
  have HE := Lib.hid (fun W => effective_any now t W)
  generalize max now t = tt at ht HE ⊢
  obtain ⟨R, hR⟩ : ∃ R, R = askM r tt m s.data.toList k := ⟨_, rfl⟩
  rw [← hR]
  have HR0 := Lib.hid hR
  clear hR
  obtain ⟨c0, c1, c2, c3, c4⟩ := h.bk.cells
  have hfz := h.bk.frozen
  have H1 := Lib.hid (h.setNow tt)
  have HO := Lib.hid (show Only (fun i => i = g ∨ i = b) w (w.setCell ⟨g, 3, none⟩ (.int .u64 (tt : Int))) from (Only.refl _ w).setCell (.inl (.inl rfl)) _)
  clear h hm
  go_enter Try.func9, Try.ntmps9
  go_wp2_with (first
    | (go_at_call 22; refine HM.out.mono ?_; rintro e w' ⟨rfl, rfl⟩)
    | (go_at_call 23; refine (HE.out _).mono ?_; rintro e w' ⟨rfl, rfl⟩))
  obtain ⟨W, hW⟩ : ∃ W, w.setCell ⟨g, 3, none⟩ (.int .u64 (tt : Int)) = W := ⟨_, rfl⟩
  rw [hW] at H1 HO ⊢
  clear hW HM HE c0 c1 c2 c3 c4 hfz
  have h := H1.out
  obtain ⟨c0, c1, c2, c3, c4⟩ := h.bk.cells
  have hd : Qb W.drew g b n r tt m := h.below (Below.refl W.heap.size W).drew
  have hlk := look_any hd.mp (s := s) (by unfold maxLen; omega)
  have hlk3 : ∀ o : Obj, Sem.run Try.prog (Instr.lookup 59 (.map (some b)) (.string s) false) (W.alloc o).drew = .ok (accV (mget accZ m s.data.toList)) (W.alloc o).drew := fun o => look_any (World.mapv.kept (row := none) hd.mp (World.grownBy_alloc W.drew o none) (by simp)) (s := s) (by unfold maxLen; omega)
  have hA := mget_ok hd.mp accZ_ok s.data.toList
  have hq : tt / r.P ≤ 9223372036854775808 := Nat.le_trans (Nat.div_le_self _ _) ht
  have HA := Lib.hid (at_any (mget accZ m s.data.toList) (tt / r.P) hA hq)
  have hA2 := accAt_ok hA hq
  have hid := accAt_idem (mget accZ m s.data.toList) (tt / r.P)
  have e1 : ((tt / r.P : Nat) : Int) = (tt : Int) / (r.P : Int) := by simp
  rw [e1] at HA
  have hwq : IntKind.u64.wrap ((tt : Int) / (r.P : Int)) = (tt : Int) / (r.P : Int) := by rw [← e1]; generalize tt / r.P = q at hq ⊢; exact IntWalk.u64_in _ (by omega)
  have hR := HR0.out
  clear HR0
  unfold askM at hR
  have HB := Lib.hid hd.bk
  have HBA := Lib.hid (fun o : Obj => (show BkC (W.alloc o).drew g r tt b from Blk.drewN (Blk.alloc h.bk o) 1))
  generalize accAt (mget accZ m s.data.toList) (tt / r.P) = A at HA hA2 hR hid
  generalize mget accZ m s.data.toList = a at HA hlk hlk3
  obtain ⟨v0, m0, m1, d0, d1⟩ := A
  have HA1 : Hid (∀ w : World, Calls Try.prog 24 #[accV a, .int .u64 ((tt : Int) / (r.P : Int))] w fun e w' => e = .returned (.agg #[.int .u64 (v0 : Int), .int .i64 (m0 : Int), .int .i64 (m1 : Int), .int .i64 (d0 : Int), .int .i64 (d1 : Int)]) ∧ Below w.heap.size w w') := HA
  clear HA
  have hg := h.bk.lt
  have hbl := h.mp.lt
  have hgne : g ≠ W.heap.size := by omega
  have hgne2 : W.heap.size ≠ g := by omega
  have hPn : r.P ≠ 0 := by have := hr.P; omega
  have hwW : w.heap.size ≤ W.heap.size := HO.out.size
  have HR := Lib.hid hR
  have HID := Lib.hid hid
  clear hid hR e1 hq h hd hA
  go_cut [11] (fun s11 wx => ∃ z, s11 = .pointer (some ⟨z, 0, none⟩) ∧ W.heap.size ≤ z ∧ Blk wx z 71 #[.int .u64 (v0 : Int), .int .i64 (m0 : Int), .int .i64 (m1 : Int), .int .i64 (d0 : Int), .int .i64 (d1 : Int)] ∧ Below W.heap.size W wx)
  case first =>
    go_region_held3 (fun w' => w'.cell? ⟨g, 0, none⟩ = some (.int .u64 (r.P : Int)) ∧ w'.cell? ⟨g, 1, none⟩ = some (.int .i64 (r.C : Int)) ∧ w'.cell? ⟨g, 2, none⟩ = some (.int .i64 (r.B : Int)) ∧ w'.cell? ⟨g, 3, none⟩ = some (.int .u64 (tt : Int)) ∧ w'.cell? ⟨g, 4, none⟩ = some (.map (some b))) (go_keep) (first
      | (go_at_call 24; refine (HA1.out W.drew).mono ?_; rintro e w1 ⟨rfl, b1⟩; obtain ⟨k0, k1, k2, k3, k4⟩ := BkC.cells (Blk.below HB.out b1 hg))
      | (go_at_call 24; refine (HA1.out _).mono ?_; rintro e w1 ⟨rfl, b1⟩; obtain ⟨k0, k1, k2, k3, k4⟩ := BkC.cells (Blk.below (HBA.out _) b1 (Nat.lt_of_lt_of_le hg (by simp))); have HZ : Blk w1 W.heap.size 71 #[.int .u64 0, .int .i64 0, .int .i64 0, .int .i64 0, .int .i64 0] := Blk.below (Blk.drewN (Blk.new W _ _) 1) b1 (by simp); have z0 := HZ.cell 0; have z1 := HZ.cell 1; have z2 := HZ.cell 2; have z3 := HZ.cell 3; have z4 := HZ.cell 4; have hz := HZ.frozen))
    all_goals
      go_wp2_with fail
      go_meet
      first
        | exact ⟨W.heap.size, rfl, Nat.le_refl _, by simpa using ((((HZ.set_ 0 (.int .u64 (v0 : Int))).set_ 1 (.int .i64 (m0 : Int))).set_ 2 (.int .i64 (m1 : Int))).set_ 3 (.int .i64 (d0 : Int))).set_ 4 (.int .i64 (d1 : Int)),
            Below.setCell (Below.setCell (Below.setCell (Below.setCell (Below.setCell (Below.trans ((Below.refl W.heap.size W).alloc (Nat.le_refl _) _).drew (b1.mono (by simp))) (by simp) _) (by simp) _) (by simp) _) (by simp) _) (by simp) _⟩
        | exact ⟨w1.heap.size, rfl, b1.size, Blk.new _ _ _, (Below.trans (Below.refl W.heap.size W).drew b1).alloc b1.size _⟩
  case rest =>
    obtain ⟨z, rfl, hz0, hz, hb⟩ := hcut
    have h := H1.out.below hb
    have HO2 := Lib.hid (HO.out.trans (Only.of_below hb (fun _ => False)) (fun _ h => h.elim))
    clear HO hlk hlk3 HA1 HB HBA c0 c1 c2 c3 c4 hgne hgne2 hwq H1
    obtain ⟨c0, c1, c2, c3, c4⟩ := h.bk.cells
    have y0 := hz.cell 0
    have y1 := hz.cell 1
    have y2 := hz.cell 2
    have y3 := hz.cell 3
    have y4 := hz.cell 4
    have hzg : z ≠ g := by omega
    have hzb : z ≠ b := by omega
    have hz00 : w.heap.size ≤ z := Nat.le_trans hwW hz0
    have HL := Lib.hid (fun W (hW : BkC W g r tt b) => allows_any g r tt b ⟨v0, m0, m1, d0, d1⟩ tt k hr hA2 ht W hW)
    unfold accV at HL
    have HD := Lib.hid (show Qb wc.drew g b n r tt m from h.below (Below.refl wc.heap.size wc).drew)
    have HZ := Lib.hid hz
    clear hb hz h
    go_wp2_with fail
    go_still_tail 7, (by kernel_rfl)
    change wpList _ _ _ _ _ wc.drew
    have HZd : Hid (Blk wc.drew z 71 #[.int .u64 (v0 : Int), .int .i64 (m0 : Int), .int .i64 (m1 : Int), .int .i64 (d0 : Int), .int .i64 (d1 : Int)]) := HZ.out.drewN 1
    have HO3 : Hid (Only (fun i => i = g ∨ i = b) w wc.drew) := HO2.out.drew
    obtain ⟨W1, hW1⟩ : ∃ W1, wc.drew = W1 := ⟨_, rfl⟩
    rw [hW1] at HD HZd HO3 ⊢
    clear hW1 c0 c1 c2 c3 c4 y0 y1 y2 y3 y4 HO2 HZ wc
    cases hal : allowsA r ⟨v0, m0, m1, d0, d1⟩ tt k
    · rw [hal] at HL HR
      simp only [Bool.false_eq_true, if_false] at HR
      clear hal
      go_wp2_with fail
      refine (HL.out W1 HD.out.bk).mono ?_
      rintro e w1 ⟨rfl, b1⟩
      clear HL
      have H2 := Lib.hid (HD.out.below b1)
      have HO4 := Lib.hid (HO3.out.trans (Only.of_below b1 (fun _ => False)) (fun _ h => h.elim))
      clear b1 HD HZd HO3
      go_wp2_with fail
      go_ret2
      exact ⟨by rw [HR.out]; rfl, ⟨⟨H2.out.bk, by rw [HR.out]; exact H2.out.mp.mono (Nat.le_succ _)⟩, HO4.out⟩⟩
    · rw [hal] at HL HR
      simp only [if_true] at HR
      obtain ⟨hk1, hk2⟩ := allows_room HID.out hal
      have hrB := hr.B
      have hrC := hr.C
      dsimp only at hk1 hk2
      have hk3 : m0 + 1 ≤ 1073741824 := by omega
      have hk4 : m1 + k ≤ 1073741824 := by omega
      clear hal hk1 hk2 hrB hrC
      go_wp2_with fail
      refine (HL.out W1 HD.out.bk).mono ?_
      rintro e w1 ⟨rfl, b1⟩
      clear HL
      have H2 := HD.out.below b1
      have HO4 := HO3.out.trans (Only.of_below b1 (fun _ => False)) (fun _ h => h.elim)
      have HZ2 := HZd.out.below b1 HZd.out.lt
      have HT := Lib.hid (tidy_any g b n r tt m hr ht w1 H2)
      have HO5 := Lib.hid HO4
      have HZ3 := Lib.hid HZ2
      clear b1 HD HZd HO3 H2 HO4 HZ2
      go_wp2_with fail
      refine HT.out.mono ?_
      rintro e w2 ⟨rfl, h3, g3⟩
      have HO6 := Lib.hid (HO5.out.trans (Only.of_grown (S := fun i => i = g ∨ i = b) g3 (.inr rfl)) (fun _ h => .inl h))
      have HZ4 := Lib.hid (HZ3.out.grown g3 (fun e => hzb (Option.some.inj e)))
      have hml : (tidyM r.P tt m).length ≤ n := h3.mp.size
      generalize tidyM r.P tt m = m2 at h3 HR hml
      have hlk2 := lookOk_any h3.mp (s := s) (by unfold maxLen; omega)
      generalize mget accZ m2 s.data.toList = a2 at hlk2
      obtain ⟨e0, f0, f1, p0, p1⟩ := a2
      unfold accV at hlk2
      have h4 := h3.below ((Below.refl w2.heap.size w2).alloc (Nat.le_refl _) (.cells #[.int .u64 (e0 : Int), .int .i64 (f0 : Int), .int .i64 (f1 : Int), .int .i64 (p0 : Int), .int .i64 (p1 : Int)] 71))
      have hlen := fun ty => h4.mp.len Try.underlying59 ty
      have HZ5 := HZ4.out.alloc (.cells #[.int .u64 (e0 : Int), .int .i64 (f0 : Int), .int .i64 (f1 : Int), .int .i64 (p0 : Int), .int .i64 (p1 : Int)] 71)
      have HO7 := Lib.hid (HO6.out.alloc (.cells #[.int .u64 (e0 : Int), .int .i64 (f0 : Int), .int .i64 (f1 : Int), .int .i64 (p0 : Int), .int .i64 (p1 : Int)] 71))
      obtain ⟨c0, c1, c2, c3, c4⟩ := h3.bk.cells
      have hg2 := h3.bk.lt
      have H4 := Lib.hid h4
      clear h3 g3 HT HO5 HZ3 h4 HO6 HZ4
      by_cases hfull : mhas m2 s.data.toList = false ∧ 1000 ≤ m2.length
      · rw [if_pos hfull] at HR
        rw [hfull.1] at hlk2
        have hd1 : decide ((1000 : Int) ≤ (m2.length : Int)) = true := by rw [decide_eq_true_eq]; omega
        clear hfull HZ5
        go_wp2_with fail
        go_ret2
        exact ⟨by rw [HR.out]; rfl, ⟨⟨H4.out.bk, by rw [HR.out]; exact H4.out.mp.mono (Nat.le_succ _)⟩, HO7.out⟩⟩
      · rw [if_neg hfull] at HR
        have hcase : mhas m2 s.data.toList = true ∨ (mhas m2 s.data.toList = false ∧ decide ((1000 : Int) ≤ (m2.length : Int)) = false) := by
          cases hmh : mhas m2 s.data.toList
          · right
            refine ⟨rfl, ?_⟩
            rw [decide_eq_false_iff_not]
            intro h
            exact hfull ⟨hmh, by omega⟩
          · exact .inl rfl
        clear hfull
        have y0 := HZ5.cell 0
        have y1 := HZ5.cell 1
        have y2 := HZ5.cell 2
        have y3 := HZ5.cell 3
        have y4 := HZ5.cell 4
        have hfz := HZ5.frozen
        have HZ6 := Lib.hid HZ5
        have hz2 := HZ5.lt
        clear HZ5
        rcases hcase with hmh | ⟨hmh, hd1⟩
        all_goals
          rw [hmh] at hlk2
          clear hmh
          go_wp2_with fail
          have HZ7 : Blk (((w2.alloc (.cells #[.int .u64 (e0 : Int), .int .i64 (f0 : Int), .int .i64 (f1 : Int), .int .i64 (p0 : Int), .int .i64 (p1 : Int)] 71)).setCell ⟨z, 1, none⟩ (.int .i64 ((m0 : Int) + 1))).setCell ⟨z, 2, none⟩ (.int .i64 ((m1 : Int) + (k : Int)))) z 71 #[.int .u64 (v0 : Int), .int .i64 ((m0 : Int) + 1), .int .i64 ((m1 : Int) + (k : Int)), .int .i64 (d0 : Int), .int .i64 (d1 : Int)] := by
            simpa using (HZ6.out.set_ 1 (.int .i64 ((m0 : Int) + 1))).set_ 2 (.int .i64 ((m1 : Int) + (k : Int)))
          have h7 : Qb (((w2.alloc (.cells #[.int .u64 (e0 : Int), .int .i64 (f0 : Int), .int .i64 (f1 : Int), .int .i64 (p0 : Int), .int .i64 (p1 : Int)] 71)).setCell ⟨z, 1, none⟩ (.int .i64 ((m0 : Int) + 1))).setCell ⟨z, 2, none⟩ (.int .i64 ((m1 : Int) + (k : Int)))) g b n r tt m2 :=
            (H4.out.far hzg hzb 1 _).far hzg hzb 2 _
          have ho7 : Only (fun i => i = g ∨ i = b) w (((w2.alloc (.cells #[.int .u64 (e0 : Int), .int .i64 (f0 : Int), .int .i64 (f1 : Int), .int .i64 (p0 : Int), .int .i64 (p1 : Int)] 71)).setCell ⟨z, 1, none⟩ (.int .i64 ((m0 : Int) + 1))).setCell ⟨z, 2, none⟩ (.int .i64 ((m1 : Int) + (k : Int)))) :=
            (HO7.out.setCell1 (.inr hz00) _ _).setCell1 (.inr hz00) _ _
          obtain ⟨W4, hW4⟩ : ∃ W4, (((w2.alloc (.cells #[.int .u64 (e0 : Int), .int .i64 (f0 : Int), .int .i64 (f1 : Int), .int .i64 (p0 : Int), .int .i64 (p1 : Int)] 71)).setCell ⟨z, 1, none⟩ (.int .i64 ((m0 : Int) + 1))).setCell ⟨z, 2, none⟩ (.int .i64 ((m1 : Int) + (k : Int)))) = W4 := ⟨_, rfl⟩
          rw [hW4] at HZ7 h7 ho7 ⊢
          clear hW4 HZ6 y0 y1 y2 y3 y4 hfz hz2 H4 HO7 hlen hlk2 c0 c1 c2 c3 c4 hg2
          obtain ⟨c0, c1, c2, c3, c4⟩ := h7.bk.cells
          have y0 := HZ7.cell 0
          have y1 := HZ7.cell 1
          have y2 := HZ7.cell 2
          have y3 := HZ7.cell 3
          have y4 := HZ7.cell 4
          have H8 := Lib.hid (show Qb W4.drew g b n r tt m2 from h7.below (Below.refl W4.heap.size W4).drew)
          have HO8 := Lib.hid ho7.drew
          clear h7 ho7 HZ7
          go_still_tail 6, (by kernel_rfl)
          change wpList _ _ _ _ _ W4.drew
          refine wpList_update_v (val := accV) rfl _ _ _ 59 71 rfl Try.underlying9 Try.underlying59 rfl H8.out.mp (by unfold maxLen; omega) s (by unfold maxLen; omega) ⟨v0, m0 + 1, m1 + k, d0, d1⟩ rfl (by unfold accV; simp [Act.eval]) ⟨hA2.w, hk3, hk4, hA2.b0, hA2.b1⟩ ?_
          intro w5 h9 g9
          have H9 := Lib.hid h9
          have G9 := Lib.hid g9
          clear h9 g9 c0 c1 c2 c3 c4 y0 y1 y2 y3 y4
          go_wp2_with fail
          go_ret2
          refine ⟨by rw [HR.out]; rfl, ⟨⟨Blk.grown H8.out.bk G9.out (fun e => H8.out.ne (Option.some.inj e)), by rw [HR.out]; exact H9.out⟩, HO8.out.trans (Only.of_grown (S := fun i => i = g ∨ i = b) G9.out (.inr rfl)) (fun _ h => .inl h)⟩⟩
end Go.Proofs.Ytnofpbhpnhbbpaa
