/- Step of a sweeper upon an index: what it turns, to the block. -/
import Derived.Test.YtfpkeinknhijaaaSwpQ
namespace Go.Proofs.Ytfpkeinknhijaaa
set_option linter.unusedVariables false
open Go.RowKit Go.Maps Go.Sort

def StepO (O : Nat → Prop) (s g : Nat) : Prop := g = s ∨ O g
/-- What Step leaves. -/
def StepQ (w : World) (x : Nat) (most seed R : Int) (nn : Nat) (O Rd : Nat → Prop) (s rd : Nat) (r : Sst) (e : Ending) (w' : World) : Prop :=
  e = .returned (.tuple #[.int .i64 (r.lk : Int), .int .i64 (r.gn : Int), .int .i64 0]) ∧ Ri w' x most seed R nn O Rd r.d ∧ Swp w' s r.n r.i (if r.fin = true then rd + 1 else rd) ∧ Only (StepO O s) w w'
set_option maxHeartbeats 4000000 in
set_option maxRecDepth 100000 in
theorem swstep_ri {w : World} {O Rd : Nat → Prop} {x : Nat} {most seed R : Int} {nn : Nat} {d : Dx} {s n i rd : Nat} (k : Ri w x most seed R nn O Rd d) (hs : Swp w s n i rd) (hS : ∀ g, O g ∨ Rd g → ¬ g = s) (m : Nat) (hm : nn + m ≤ 100000) (hp : n < 65536) (hi : i ≤ 100001) (hrd : rd ≤ 1000000) :
    Calls Try.prog 45 #[.pointer (some ⟨s, 0, none⟩), .pointer (some ⟨x, 0, none⟩), .int .i64 (m : Int)] w (StepQ w x most seed R (nn + m) O Rd s rd (swGo m d n i 0 0)) := by
  obtain ⟨tb, lb, sb, own, lm, sm, l0, hry, -⟩ := id k
  have HSL := Lib.hid (rvslots_any hry (by omega) 0)
  obtain ⟨res, hres⟩ : ∃ res, swGo m d n i 0 0 = res := ⟨_, rfl⟩
  rw [hres]
  have HRES := Lib.hid hres
  have HK := Lib.hid k
  have HSW := Lib.hid hs
  have hn0 : (if numB 0 = true then (0 : Int) else 2) = 0 := by decide
  rw [hn0] at HSL
  have hm0 : ¬ (m : Int) < 0 := by omega
  clear hry hres k hs hn0
  go_enter Try.func45, Try.ntmps45
  go_wp2_with fail
  go_step3
  go_wp2_with (go_at_call 52; refine HSL.out.mono ?_; rintro e w1 ⟨v1, rfl, hv1, b1⟩; obtain ⟨p1, k1, rfl⟩ := owns_form hv1)
  go_step3
  go_wp2_with fail
  clear hv1 HSL
  have K1 := Lib.hid (HK.out.below b1)
  have SW1 := Lib.hid (Blk.below HSW.out b1 (Blk.lt HSW.out))
  have O1 : Hid (Only (StepO O s) w w1) := Only.of_below b1 _
  clear b1 HK HSW
  go_loopg [6, 7] m (fun r s6 s7 wr => ∃ (lk gn n' i' : Nat) (d' : Dx), r + lk = m ∧ s6 = .int .i64 (lk : Int) ∧ s7 = .int .i64 (gn : Int) ∧ swGo r d' n' i' lk gn = res ∧ Ri wr x most seed R (nn + lk) O Rd d' ∧ Swp wr s n' i' rd ∧ n' < 65536 ∧ i' ≤ 100001 ∧ gn ≤ lk ∧ Only (StepO O s) w wr)
  case atStart => exact ⟨0, 0, n, i, d, by omega, rfl, rfl, HRES.out, K1.out, SW1.out, hp, hi, Nat.le_refl _, O1.out⟩
  case round =>
    clear K1 SW1 O1 HRES
    obtain ⟨lk, gn, n', i', d', hr, rfl, rfl, hgo, hk, hsw, hp', hi', hgl, ho⟩ := hrel
    have HR := Lib.hid hr
    have HGO := Lib.hid hgo
    have HK := Lib.hid hk
    have HSW := Lib.hid hsw
    have HO := Lib.hid ho
    have hlm : lk ≤ m := by omega
    clear hr hgo hk hsw ho
    by_cases hlt : lk < m
    · obtain ⟨f, hf⟩ : ∃ f, gk = f + 1 := ⟨gk - 1, by have := HR.out; omega⟩
      have HF := Lib.hid hf
      have hgo := HGO.out
      rw [hf] at hgo
      obtain ⟨tb, lb, sb, own, lm, sm, l0, hry, -⟩ := id HK.out
      have hth := swthere_any hry (by omega) HSW.out hp' (by omega)
      have hiw := HK.out.iw
      clear hry hf HGO
      cases ht : thereX d' n' i' with
      | none =>
        rw [ht] at hth
        rw [swGo_end ht] at hgo
        have HGO := Lib.hid hgo
        change Calls _ _ _ _ (fun e w' => e = .returned (.tuple #[.agg #[.int .i64 0, .int .i64 0], .bool false]) ∧ Below wr.heap.size wr w') at hth
        have HTH := Lib.hid hth
        clear hgo hth hiw ht
        go_wp2_with (go_at_call 80; refine HTH.out.mono ?_; rintro e w2 ⟨rfl, b2⟩; have SW2 := Lib.hid (Blk.below HSW.out b2 (Blk.lt HSW.out)); have hslt := Blk.lt SW2.out; obtain ⟨e0, e1, e2⟩ := Swp.cells SW2.out; have g0 := Blk.frozen SW2.out 0; have g1 := Blk.frozen SW2.out 1; have g2 := Blk.frozen SW2.out 2)
        rw [Exit.noGoto_ret]
        go_ret3
        have OT : Only (fun g => g = s) wr (((((w2.setCell ⟨s, 0, none⟩ (.int .i64 0)).setCell ⟨s, 1, none⟩ (.int .i64 0)).setCell ⟨s, 2, none⟩ (.int .u64 ((rd : Int) + 1))).alloc (.cells #[.int .i64 0, .int .i64 0] 100))) := ((((Only.of_below b2 (fun g => g = s)).setCell1 (.inl rfl) 0 _).setCell1 (.inl rfl) 1 _).setCell1 (.inl rfl) 2 _).alloc _
        have hsw := Blk.alloc (Blk.set_ (Blk.set_ (Blk.set_ SW2.out 0 (.int .i64 0)) 1 (.int .i64 0)) 2 (.int .u64 ((rd : Int) + 1))) (.cells #[.int .i64 0, .int .i64 0] 100)
        rw [← HGO.out]
        refine ⟨rfl, (HK.out.only OT (fun g hg h => hS g hg h)).mono (Int.le_refl _) (by omega), ?_, HO.out.trans OT (fun g h => .inl (.inl h))⟩
        show Blk _ s 102 #[.int .i64 ((0 : Nat) : Int), .int .i64 ((0 : Nat) : Int), .int .u64 ((rd + 1 : Nat) : Int)]
        simpa using hsw
      | some ab =>
        obtain ⟨a, b⟩ := ab
        rw [ht] at hth
        change Calls _ _ _ _ (fun e w' => e = .returned (.tuple #[.agg #[.int .i64 (a : Int), .int .i64 (b : Int)], .bool true]) ∧ Below wr.heap.size wr w') at hth
        obtain ⟨ha, hb⟩ := there_lt hiw.1 hiw.2.2.2.2.1 hp' ht
        have hbl : b ≤ 100000 := by have := ofX_len d'.sl a; have := hiw.2.1; omega
        obtain ⟨⟨d2, cb, er⟩, hx⟩ : ∃ r, d'.cut a b = r := ⟨_, rfl⟩
        have hgo2 : cb = true → swGo f d2 a b (lk + 1) (gn + 1) = res := fun h => by rw [← hgo, swGo_cut ht (by rw [hx]; exact h), hx]
        have hgo3 : cb = false → d2 = d' ∧ swGo f d' a (b + 1) (lk + 1) gn = res := fun h => by
          refine ⟨?_, by rw [← hgo, swGo_next ht (by rw [hx]; exact h)]⟩
          have := cut_same (d := d') (n := a) (i := b) (by rw [hx]; exact h)
          rw [hx] at this
          exact this
        have HGO2 := Lib.hid hgo2
        have HGO3 := Lib.hid hgo3
        have HTH := Lib.hid hth
        have HX := Lib.hid hx
        have HKG : Hid (∀ W3, Only (fun g => g = s) wr W3 → Ri W3 x most seed R (nn + lk) O Rd d') := fun W3 h => HK.out.only h (fun g hg h => hS g hg h)
        clear hgo hth hiw ht hgo2 hgo3 hb hx
        go_wp2_with (go_at_call 80; refine HTH.out.mono ?_; rintro e w2 ⟨rfl, b2⟩; have SW2 := Lib.hid (Blk.below HSW.out b2 (Blk.lt HSW.out)); have hslt := Blk.lt SW2.out; obtain ⟨e0, e1, e2⟩ := Swp.cells SW2.out; have g0 := Blk.frozen SW2.out 0; have g1 := Blk.frozen SW2.out 1; have g2 := Blk.frozen SW2.out 2)
        have OT := (((Only.of_below b2 (fun g => g = s)).setCell1 (.inl rfl) 0 (.int .i64 (a : Int))).setCell1 (.inl rfl) 1 (.int .i64 (b : Int))).alloc (.cells #[.int .i64 (a : Int), .int .i64 (b : Int)] 100)
        have hsw := Blk.alloc (Blk.set_ (Blk.set_ SW2.out 0 (.int .i64 (a : Int))) 1 (.int .i64 (b : Int))) (.cells #[.int .i64 (a : Int), .int .i64 (b : Int)] 100)
        have hcv := rvcut_any (HKG.out _ OT) (by omega) (a : Int) (b : Int)
        rw [HX.out] at hcv
        refine hcv.mono ?_
        rintro e w4 ⟨rfl, k4, o4⟩
        have SW4 : Hid (Swp w4 s a b rd) := by
          have h := Blk.only hsw o4 (fun h => hS s (.inl h) rfl)
          have h2 : Blk w4 s 102 #[.int .i64 (a : Int), .int .i64 (b : Int), .int .u64 (rd : Int)] := by simpa using h
          exact h2
        have K4 := Lib.hid k4
        have O4 := Lib.hid ((HO.out.trans OT (fun g h => .inl (.inl h))).trans o4 (fun g h => .inl (.inr h)))
        have hslt4 := Blk.lt SW4.out
        obtain ⟨e0', e1', e2'⟩ := Swp.cells SW4.out
        have g1' := Blk.frozen SW4.out 1
        clear OT hsw k4 o4 SW2 hslt e0 e1 e2 g0 g1 g2 b2 HTH HX HKG HK HSW HO
        cases cb with
        | true =>
          have HG := Lib.hid (HGO2.out rfl)
          clear HGO2 HGO3
          go_wp2_with fail
          go_roundg f
          case measure => have := HF.out; omega
          case rel => exact ⟨lk + 1, gn + 1, a, b, d2, by have := HF.out; have := HR.out; omega, by go_num, by go_num, HG.out, K4.out, SW4.out, ha, by omega, by omega, O4.out⟩
        | false =>
          obtain ⟨rfl, hg⟩ := HGO3.out rfl
          have HG := Lib.hid hg
          clear HGO2 HGO3 hg
          go_wp2_with fail
          go_roundg f
          case measure => have := HF.out; omega
          case rel =>
            have hsw := Blk.set_ SW4.out 1 (.int .i64 ((b : Int) + 1))
            have hsw2 : Blk (w4.setCell ⟨s, 1, none⟩ (.int .i64 ((b : Int) + 1))) s 102 #[.int .i64 (a : Int), .int .i64 ((b + 1 : Nat) : Int), .int .u64 (rd : Int)] := by simpa using hsw
            have OT := (Only.refl (fun g => g = s) w4).setCell1 (.inl rfl) 1 (.int .i64 ((b : Int) + 1))
            exact ⟨lk + 1, gn, a, b + 1, d2, by have := HF.out; have := HR.out; omega, by go_num, rfl, HG.out, K4.out.only OT (fun g hg h => hS g hg h), hsw2, ha, by omega, by omega, O4.out.trans OT (fun g h => .inl (.inl h))⟩
    · obtain rfl : lk = m := by omega
      have hg0 : gk = 0 := by have := HR.out; omega
      have hgo := HGO.out
      rw [hg0, swGo] at hgo
      have HG := Lib.hid hgo
      clear HGO hgo hg0
      go_wp2_with fail
      rw [Exit.noGoto_ret]
      go_ret3
      rw [← HG.out]
      exact ⟨rfl, HK.out, HSW.out, HO.out⟩
end Go.Proofs.Ytfpkeinknhijaaa
