/- The walk of ClockHolds. -/
import Derived.Test.YtdkbcboajjilfaaDoorClockF
namespace Go.Proofs.YtdkbcboajjilfaaDoor
set_option linter.unusedVariables false
open Go.ChangeShapes Go.WideShapes Go.ChangeAt Go.RowKit

theorem pm_append (M : Nat) : ∀ (l r : List UInt8) (acc u : Nat), Lib.parseUintM M acc l = .ok u → Lib.parseUintM M acc (l ++ r) = Lib.parseUintM M u r
  | [], r, acc, u, h => by
    have : acc = u := by simpa [Lib.parseUintM] using h
    rw [this, List.nil_append]
  | c :: l, r, acc, u, h => by
    rw [List.cons_append]
    simp only [Lib.parseUintM] at h ⊢
    split at h
    · rename_i h1
      rw [if_pos h1]
      split at h
      · cases h
      · rename_i h2
        rw [if_neg h2]
        split at h
        · cases h
        · rename_i h3
          rw [if_neg h3]
          exact pm_append M l r _ u h
    · cases h

theorem dig_nat (k : Nat) (h : k < 10) : (UInt8.ofNat (48 + k)).toNat = 48 + k := by
  rw [UInt8.toNat_ofNat']
  omega

theorem pm_digits : ∀ (u : Nat), u ≤ 18446744073709551615 → Lib.parseUintM 18446744073709551615 0 (Lib.decDigits u) = .ok u := by
  intro u
  induction u using Nat.strongRecOn with
  | ind u ih =>
    intro hu
    by_cases hs : u < 10
    · rw [Lib.decDigits_one hs, pm_digit 0 _ _ (by rw [dig_nat u hs]; omega) (by rw [dig_nat u hs]; omega) (by omega), pm_nil, dig_nat u hs]
      congr 1
      omega
    · have h1 := ih (u / 10) (by omega) (by omega)
      have hd := dig_nat (u % 10) (by omega)
      have hD : Lib.decDigits u = Lib.decDigits (u / 10) ++ [UInt8.ofNat (48 + u % 10)] := by
        conv => lhs; rw [Lib.decDigits, dif_neg hs]
      rw [hD, pm_append _ _ _ _ _ h1, pm_digit (u / 10) _ _ (by rw [hd]; omega) (by rw [hd]; omega) (by rw [hd]; omega), pm_nil, hd]
      congr 1
      omega

theorem decDigits_head (u : Nat) : ∃ c r, Lib.decDigits u = c :: r ∧ 48 ≤ c.toNat ∧ c.toNat ≤ 57 := by
  induction u using Nat.strongRecOn with
  | ind u ih =>
    by_cases hs : u < 10
    · exact ⟨_, _, Lib.decDigits_one hs, by rw [dig_nat u hs]; omega, by rw [dig_nat u hs]; omega⟩
    · obtain ⟨c, r, h, h1, h2⟩ := ih (u / 10) (by omega)
      refine ⟨c, r ++ [UInt8.ofNat (48 + u % 10)], ?_, h1, h2⟩
      conv => lhs; rw [Lib.decDigits, dif_neg hs]
      rw [h, List.cons_append]

/-- A time is read from its text. -/
theorem ckParse_text (t : Int) (h0 : 0 ≤ t) (h1 : t ≤ 18446744073709551615) : ckParse (ckText t) = (t, true) := by
  by_cases h : t = 18446744073709551615
  · subst h
    have : ckText 18446744073709551615 = ckNever := by simp [ckText]
    rw [this]
    simp [ckParse]
  · obtain ⟨u, rfl⟩ : ∃ u : Nat, t = u := ⟨t.toNat, by omega⟩
    have hT : ckText u = Lib.decDigits u := by simp [ckText, h]
    have hne : ckText u ≠ ckNever := by
      obtain ⟨c, r, hc, h2, h3⟩ := decDigits_head u
      rw [hT, hc]
      intro e
      have := List.cons.inj e
      rw [this.1] at h3
      exact absurd h3 (by decide)
    rw [ckParse_from _ hne (ckText_pos _)]
    unfold ckFrom
    rw [show Lib.parseUintM 18446744073709551615 0 (ckText u) = .ok u from by rw [hT]; exact pm_digits u (by omega)]
    simp

theorem ckMark_three (t d s g : Int) : ckMark t d s g = 0 ∨ ckMark t d s g = 1 ∨ ckMark t d s g = 2 := by
  unfold ckMark
  repeat' split
  all_goals simp

theorem ckDue_mono {x a b : Int} (h : a ≤ b) (hx : ckDue x a = true) : ckDue x b = true := by
  rw [ckDue_iff] at hx ⊢
  omega

/-- Marks only change from fresh to stale or dead, and from stale to dead. -/
theorem ckMark_later (n t d s g : Int) (h : n ≤ t) : (ckMark n d s g = 0 ∧ ckMark t d s g = 0) ∨ (ckMark n d s g = 1 ∧ (ckMark t d s g = 0 ∨ ckMark t d s g = 1 ∨ ckMark t d s g = 2)) ∨ (ckMark n d s g = 2 ∧ (ckMark t d s g = 0 ∨ ckMark t d s g = 2)) := by
  have t3 := ckMark_three t d s g
  unfold ckMark at *
  rcases Bool.eq_false_or_eq_true (ckDue d n) with h1 | h1
  · have h1' := ckDue_mono h h1
    simp [h1, h1']
  · rcases Bool.eq_false_or_eq_true (ckDue s n) with h2 | h2
    · have h2' := ckDue_mono h h2
      rcases Bool.eq_false_or_eq_true (ckDue (ckAdd s g) n) with h3 | h3
      · have h3' := ckDue_mono h h3
        simp [h1, h2, h3, h2', h3']
      · rcases Bool.eq_false_or_eq_true (ckDue d t) with h5 | h5 <;> rcases Bool.eq_false_or_eq_true (ckDue (ckAdd s g) t) with h6 | h6 <;> simp [h1, h2, h3, h2', h5, h6]
    · simp [h1, h2]
      simpa using t3

set_option maxHeartbeats 4000000 in
theorem holds_walk (n l d s g : Int) (hn : 0 ≤ n ∧ n ≤ 18446744073709551615) (hl : 0 ≤ l ∧ l ≤ 18446744073709551615) (hd : 0 ≤ d ∧ d ≤ 18446744073709551615) (hs : 0 ≤ s ∧ s ≤ 18446744073709551615) (hg : 0 ≤ g ∧ g ≤ 18446744073709551615) (w : World) (hL : Laid w) :
    Calls Tryd.prog 7 #[.int .u64 n, .int .u64 l, .int .u64 d, .int .u64 s, .int .u64 g] w fun e w' => e = .returned (.bool true) ∧ Below w.heap.size w w' := by
  obtain ⟨hn0, hn1⟩ := hn
  obtain ⟨hl0, hl1⟩ := hl
  obtain ⟨hs0, hs1⟩ := hs
  obtain ⟨hg0, hg1⟩ := hg
  have hS := St.refl hL
  have p1 : psB (ckText l) l 0 = true := by simp [psB, ckParse_text l hl0 hl1, ckErr]
  have psz : (⟨(ckText l).toArray⟩ : ByteArray).size ≤ 281474976710656 := by
    have := ckText_le l hl0 hl1
    show (ckText l).toArray.size ≤ _
    rw [List.size_toArray]
    omega
  obtain ⟨a, ha⟩ : ∃ a, ckEff n l = a := ⟨_, rfl⟩
  have a1 : n ≤ a ∧ l ≤ a ∧ a ≤ 18446744073709551615 := by rw [← ha]; unfold ckEff; split <;> omega
  obtain ⟨a1, a2, a3⟩ := a1
  have a4 : ckEff a n = a := by unfold ckEff; rw [if_neg (by omega)]
  have a5 : n ≤ ckAdd n l := (ckAdd_ge n l hn1 hl0).1
  have HX := Lib.hid (ckNext_or n d s g)
  have HS := Lib.hid (ckNext_same n d s g a a1)
  have HP := Lib.hid (ckNext_same n d s g (ckNext n d s g - 1))
  have HA := Lib.hid (ckNext_or n d s g)
  have combos : ∀ P : Prop, (∀ c c' : Int, ckMark n d s g = c → ckMark a d s g = c' → ((c = 0 ∧ c' = 0) ∨ (c = 1 ∧ (c' = 0 ∨ c' = 1 ∨ c' = 2)) ∨ (c = 2 ∧ (c' = 0 ∨ c' = 2))) → P) → P := fun P h => h _ _ rfl rfl (ckMark_later n a d s g a1)
  have HC := Lib.hid combos
  clear combos hL
  rcases HX.out with hx | ⟨x1, x2, x3⟩
  · clear HX HP HA
    by_cases q : a < 18446744073709551615
    · have hab := HS.out (by rw [hx]; exact q)
      clear HS HC
      rcases ckMark_three n d s g with mn | mn | mn
      all_goals
        rw [mn] at hab
        go_enter Tryd.func7, Tryd.ntmps7
        go_wp2_with (first
        | (go_at_call 8; refine (clockAdd_any _ _ (by omega) (by omega) (by omega) _).mono ?_; rintro e w' ⟨rfl, rfl⟩)
        | (go_at_call 10; refine (clockEff_any _ _ _).mono ?_; rintro e w' ⟨rfl, rfl⟩)
        | (go_at_call 15; refine (clockMark_any _ _ _ _ (by omega) (by omega) (by omega) _).mono ?_; rintro e w' ⟨rfl, rfl⟩)
        | (go_at_call 17; refine (clockNext_any _ _ _ _ (by omega) (by omega) (by omega) _).mono ?_; rintro e w' ⟨rfl, hb⟩; have hS' := St.step (by assumption) hb; clear hb)
        | (go_at_call 20; refine (clockText_any _ (by omega) (by omega) _ (St.laid (by assumption))).mono ?_; rintro e w' ⟨rfl, hb⟩; have hS' := St.step (by assumption) hb; clear hb)
        | (go_at_call 22; refine (parses_any _ (by assumption) _ _ _ (St.laid (by assumption))).mono ?_; rintro e w' ⟨rfl, hb⟩; have hS' := St.step (by assumption) hb; clear hb)
        | (go_at_call 14; refine (known_any _ (St.laid (by assumption))).mono ?_; rintro e w' ⟨rfl, hb⟩; have hS' := St.step (by assumption) hb; clear hb))
        go_ret
        exact ⟨rfl, St.bel (by assumption)⟩
    · clear HS
      refine HC.out _ ?_
      rintro c c' mn ma (⟨rfl, rfl⟩ | ⟨rfl, rfl | rfl | rfl⟩ | ⟨rfl, rfl | rfl⟩)
      all_goals
        clear HC
        go_enter Tryd.func7, Tryd.ntmps7
        go_wp2_with (first
        | (go_at_call 8; refine (clockAdd_any _ _ (by omega) (by omega) (by omega) _).mono ?_; rintro e w' ⟨rfl, rfl⟩)
        | (go_at_call 10; refine (clockEff_any _ _ _).mono ?_; rintro e w' ⟨rfl, rfl⟩)
        | (go_at_call 15; refine (clockMark_any _ _ _ _ (by omega) (by omega) (by omega) _).mono ?_; rintro e w' ⟨rfl, rfl⟩)
        | (go_at_call 17; refine (clockNext_any _ _ _ _ (by omega) (by omega) (by omega) _).mono ?_; rintro e w' ⟨rfl, hb⟩; have hS' := St.step (by assumption) hb; clear hb)
        | (go_at_call 20; refine (clockText_any _ (by omega) (by omega) _ (St.laid (by assumption))).mono ?_; rintro e w' ⟨rfl, hb⟩; have hS' := St.step (by assumption) hb; clear hb)
        | (go_at_call 22; refine (parses_any _ (by assumption) _ _ _ (St.laid (by assumption))).mono ?_; rintro e w' ⟨rfl, hb⟩; have hS' := St.step (by assumption) hb; clear hb)
        | (go_at_call 14; refine (known_any _ (St.laid (by assumption))).mono ?_; rintro e w' ⟨rfl, hb⟩; have hS' := St.step (by assumption) hb; clear hb))
        go_ret
        exact ⟨rfl, St.bel (by assumption)⟩
  · have hprev := HP.out (by omega) (by omega)
    have y1 : (ckNext n d s g == 18446744073709551615) = false := by rw [beq_eq_false_iff_ne]; omega
    have y2 : (ckNext n d s g != 18446744073709551615) = true := by rw [bne_iff_ne]; omega
    have y3 : (ckMark (ckNext n d s g) d s g == ckMark n d s g) = false := by rw [beq_eq_false_iff_ne]; exact x3
    have Y1 := Lib.hid y1
    have Y2 := Lib.hid y2
    have Y3 := Lib.hid y3
    have X3 := Lib.hid hprev
    clear HX HP HA x3 y1 y2 y3 hprev
    by_cases q : a < ckNext n d s g
    · have hab := HS.out q
      clear HS HC
      rcases ckMark_three n d s g with mn | mn | mn
      all_goals
        have y3 := Y3.out
        have hp := X3.out
        have y1 := Y1.out
        have y2 := Y2.out
        rw [mn] at hab y3 hp
        go_enter Tryd.func7, Tryd.ntmps7
        go_wp2_with (first
        | (go_at_call 8; refine (clockAdd_any _ _ (by omega) (by omega) (by omega) _).mono ?_; rintro e w' ⟨rfl, rfl⟩)
        | (go_at_call 10; refine (clockEff_any _ _ _).mono ?_; rintro e w' ⟨rfl, rfl⟩)
        | (go_at_call 15; refine (clockMark_any _ _ _ _ (by omega) (by omega) (by omega) _).mono ?_; rintro e w' ⟨rfl, rfl⟩)
        | (go_at_call 17; refine (clockNext_any _ _ _ _ (by omega) (by omega) (by omega) _).mono ?_; rintro e w' ⟨rfl, hb⟩; have hS' := St.step (by assumption) hb; clear hb)
        | (go_at_call 20; refine (clockText_any _ (by omega) (by omega) _ (St.laid (by assumption))).mono ?_; rintro e w' ⟨rfl, hb⟩; have hS' := St.step (by assumption) hb; clear hb)
        | (go_at_call 22; refine (parses_any _ (by assumption) _ _ _ (St.laid (by assumption))).mono ?_; rintro e w' ⟨rfl, hb⟩; have hS' := St.step (by assumption) hb; clear hb)
        | (go_at_call 14; refine (known_any _ (St.laid (by assumption))).mono ?_; rintro e w' ⟨rfl, hb⟩; have hS' := St.step (by assumption) hb; clear hb))
        go_ret
        exact ⟨rfl, St.bel (by assumption)⟩
    · clear HS
      refine HC.out _ ?_
      rintro c c' mn ma (⟨rfl, rfl⟩ | ⟨rfl, rfl | rfl | rfl⟩ | ⟨rfl, rfl | rfl⟩)
      all_goals
        clear HC
        have y3 := Y3.out
        have hp := X3.out
        have y1 := Y1.out
        have y2 := Y2.out
        rw [mn] at y3 hp
        go_enter Tryd.func7, Tryd.ntmps7
        go_wp2_with (first
        | (go_at_call 8; refine (clockAdd_any _ _ (by omega) (by omega) (by omega) _).mono ?_; rintro e w' ⟨rfl, rfl⟩)
        | (go_at_call 10; refine (clockEff_any _ _ _).mono ?_; rintro e w' ⟨rfl, rfl⟩)
        | (go_at_call 15; refine (clockMark_any _ _ _ _ (by omega) (by omega) (by omega) _).mono ?_; rintro e w' ⟨rfl, rfl⟩)
        | (go_at_call 17; refine (clockNext_any _ _ _ _ (by omega) (by omega) (by omega) _).mono ?_; rintro e w' ⟨rfl, hb⟩; have hS' := St.step (by assumption) hb; clear hb)
        | (go_at_call 20; refine (clockText_any _ (by omega) (by omega) _ (St.laid (by assumption))).mono ?_; rintro e w' ⟨rfl, hb⟩; have hS' := St.step (by assumption) hb; clear hb)
        | (go_at_call 22; refine (parses_any _ (by assumption) _ _ _ (St.laid (by assumption))).mono ?_; rintro e w' ⟨rfl, hb⟩; have hS' := St.step (by assumption) hb; clear hb)
        | (go_at_call 14; refine (known_any _ (St.laid (by assumption))).mono ?_; rintro e w' ⟨rfl, hb⟩; have hS' := St.step (by assumption) hb; clear hb))
        go_ret
        exact ⟨rfl, St.bel (by assumption)⟩
end Go.Proofs.YtdkbcboajjilfaaDoor
