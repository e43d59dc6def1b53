/- Contracts of clock.Text, clock.Parse, clock.Word and of their references. -/
import Derived.Test.YtdkbcboajjilfaaDoorFmtUint
import Derived.Test.YtdkbcboajjilfaaDoorClockB
namespace Go.Proofs.YtdkbcboajjilfaaDoor
set_option linter.unusedVariables false
open Go.ChangeShapes Go.WideShapes Go.ChangeAt Go.RowKit

theorem var?_old {P : Program} {w w' : World} {n : String} {cs : Array Value} (h : w.var? P n = some cs) (hb : Below w.heap.size w w') : w'.var? P n = some cs := by
  unfold World.var? at h ⊢
  cases hg : P.globalNamed n with
  | none => simp [hg] at h
  | some g =>
    simp only [hg, Option.bind_some] at h ⊢
    have hlt : g < w.heap.size := by
      rcases Nat.lt_or_ge g w.heap.size with h' | h'
      · exact h'
      · simp [Array.getElem?_eq_none h'] at h
    rw [hb.block g hlt]
    exact h

/-- What start-up code has laid, as far as the calls read it. -/
structure Laid (w : World) : Prop where
  pow : Lib.TabIs Tryd.prog w "internal/strconv.uint64pow10" .u64 Lib.pow10Tab
  syn : ∃ tp p, w.var? Tryd.prog "strconv.ErrSyntax" = some #[.iface tp p]
  rng : ∃ tp p, w.var? Tryd.prog "strconv.ErrRange" = some #[.iface tp p]

theorem Laid.below {w w' : World} (h : Laid w) (hb : Below w.heap.size w w') : Laid w' := by
  obtain ⟨a, ⟨t1, p1, h1⟩, ⟨t2, p2, h2⟩⟩ := h
  exact ⟨var?_old a hb, ⟨t1, p1, var?_old h1 hb⟩, ⟨t2, p2, var?_old h2 hb⟩⟩

theorem clockText_any (t : Int) (h0 : 0 ≤ t) (h1 : t ≤ 18446744073709551615) (w : World) (hL : Laid w) :
    Calls Tryd.prog 20 #[.int .u64 t] w fun e w' => e = .returned (.string ⟨(ckText t).toArray⟩) ∧ Below w.heap.size w w' := by
  by_cases h : t = 18446744073709551615
  · have hT : ckText t = ckNever := by simp [ckText, h]
    have HT := Lib.hid hT
    clear hT
    subst h
    go_enter Tryd.func20, Tryd.ntmps20
    go_wp2
    go_ret
    exact ⟨by rw [HT.out]; rfl, Below.refl _ _⟩
  · obtain ⟨u, rfl⟩ : ∃ u : Nat, t = u := ⟨t.toNat, by omega⟩
    have hT : ckText u = Lib.decDigits u := by simp [ckText, h]
    have HT := Lib.hid hT
    clear hT
    have hp := hL.pow
    have hu : u < 18446744073709551616 := by omega
    go_enter Tryd.func20, Tryd.ntmps20
    go_wp2_with (go_at_call 25; refine (formatUint_any u hu _ hp).mono ?_; rintro e w' ⟨rfl, hb⟩)
    go_ret
    exact ⟨by rw [HT.out]; rfl, hb⟩

theorem refDigits_any : ∀ (u : Nat), u < 18446744073709551616 → ∀ (w : World),
    Calls Tryd.prog 26 #[.int .u64 u] w fun e w' => e = .returned (.string ⟨(Lib.decDigits u).toArray⟩) ∧ w = w' := by
  intro u
  induction u using Nat.strongRecOn with
  | ind u ih =>
    intro hu w
    by_cases hs : u < 10
    · have hD := Lib.decDigits_one hs
      have hc : u = 0 ∨ u = 1 ∨ u = 2 ∨ u = 3 ∨ u = 4 ∨ u = 5 ∨ u = 6 ∨ u = 7 ∨ u = 8 ∨ u = 9 := by omega
      have HD := Lib.hid hD
      clear hD ih hu hs
      rcases hc with rfl | rfl | rfl | rfl | rfl | rfl | rfl | rfl | rfl | rfl
      all_goals
        go_enter Tryd.func26, Tryd.ntmps26
        go_wp2
        go_ret
        exact ⟨by rw [HD.out]; rfl, rfl⟩
    · have i1 : ∀ w, Calls Tryd.prog 26 #[.int .u64 ((u : Int) / 10)] w fun e w' => e = .returned (.string ⟨(Lib.decDigits (u / 10)).toArray⟩) ∧ w = w' := fun w => by
        rw [show ((u : Int) / 10) = ((u / 10 : Nat) : Int) from by omega]
        exact ih (u / 10) (by omega) (by omega) w
      have i2 : ∀ w, Calls Tryd.prog 26 #[.int .u64 ((u : Int) % 10)] w fun e w' => e = .returned (.string ⟨(Lib.decDigits (u % 10)).toArray⟩) ∧ w = w' := fun w => by
        rw [show ((u : Int) % 10) = ((u % 10 : Nat) : Int) from by omega]
        exact ih (u % 10) (by omega) (by omega) w
      have hD : Lib.decDigits u = Lib.decDigits (u / 10) ++ Lib.decDigits (u % 10) := by
        rw [Lib.decDigits_one (i := u % 10) (by omega)]
        conv => lhs; rw [Lib.decDigits, dif_neg hs]
      have hl : (Lib.decDigits (u / 10)).length + (Lib.decDigits (u % 10)).length ≤ 9223372036854775807 := by
        have := decDigits_le (u / 10) (by omega)
        have := decDigits_le (u % 10) (by omega)
        omega
      have I1 := Lib.hid i1
      have I2 := Lib.hid i2
      have HD := Lib.hid hD
      clear i1 i2 ih hD
      go_enter Tryd.func26, Tryd.ntmps26
      go_wp2_with fail
      refine (I1.out _).mono ?_
      rintro e w' ⟨rfl, rfl⟩
      go_wp2_with fail
      refine (I2.out _).mono ?_
      rintro e w' ⟨rfl, rfl⟩
      go_wp2_with fail
      go_ret
      exact ⟨by rw [HD.out, ← bs_append]; rfl, rfl⟩

theorem refText_any (t : Int) (h0 : 0 ≤ t) (h1 : t ≤ 18446744073709551615) (w : World) :
    Calls Tryd.prog 21 #[.int .u64 t] w fun e w' => e = .returned (.string ⟨(ckText t).toArray⟩) ∧ w = w' := by
  by_cases h : t = 18446744073709551615
  · have hT : ckText t = ckNever := by simp [ckText, h]
    have HT := Lib.hid hT
    clear hT
    subst h
    go_enter Tryd.func21, Tryd.ntmps21
    go_wp2
    go_ret
    exact ⟨by rw [HT.out]; rfl, rfl⟩
  · obtain ⟨u, rfl⟩ : ∃ u : Nat, t = u := ⟨t.toNat, by omega⟩
    have hT : ckText u = Lib.decDigits u := by simp [ckText, h]
    have HT := Lib.hid hT
    clear hT
    have hu : u < 18446744073709551616 := by omega
    go_enter Tryd.func21, Tryd.ntmps21
    go_wp2_with (go_at_call 26; refine (refDigits_any u hu _).mono ?_; rintro e w' ⟨rfl, rfl⟩)
    go_ret
    exact ⟨by rw [HT.out]; rfl, rfl⟩

set_option maxHeartbeats 1000000 in
theorem clockParse_any (s : ByteArray) (hs : s.size ≤ 281474976710656) (w : World) (hL : Laid w) :
    Calls Tryd.prog 27 #[.string s] w fun e w' => e = .returned (.tuple #[.int .u64 (ckParse s.data.toList).1, .int .i64 (ckErr (ckParse s.data.toList).2)]) ∧ Below w.heap.size w w' := by
  by_cases h : s.data.toList = ckNever
  · have hT : ckParse s.data.toList = (18446744073709551615, true) := by simp [ckParse, h]
    have HT := Lib.hid hT
    have h2 : s = ⟨#[110, 101, 118, 101, 114]⟩ := by
      apply ByteArray.ext
      rw [← Array.toArray_toList (xs := s.data), h]
      rfl
    clear hT
    rw [HT.out]
    subst h2
    go_enter Tryd.func27, Tryd.ntmps27
    go_wp2
    go_ret2
    exact ⟨rfl, Below.refl _ _⟩
  · have h2 : (s.toList == [110, 101, 118, 101, 114]) = false := by
      rw [beq_eq_false_iff_ne, Lib.toList_data]
      exact h
    have HN := Lib.hid h
    clear h
    rcases end_cases (Lib.parseUintB 64 s.data.toList) with ⟨u, hp⟩ | hp | hp
    case inl =>
      have hu := Lib.parseUintB_le hp
      have hu' : u ≤ 18446744073709551615 := hu
      have hT : ckParse s.data.toList = if ckText u = s.data.toList then ((u : Int), true) else (0, false) := by
        have h := HN.out
        simp only [ckParse, h, if_false, hp]
      have HT := Lib.hid hT
      have hs' : s.size ≤ 9223372036854775806 := by omega
      clear hT hu
      have Hp := Lib.hid hp
      clear hp
      rcases Bool.eq_false_or_eq_true (ckText u == s.toList) with h3 | h3
      all_goals
        have ht := h3
        rw [Lib.toList_data] at ht
        simp only [beq_iff_eq, beq_eq_false_iff_ne, ne_eq] at ht
        have Ht := Lib.hid ht
        clear ht
        go_enter Tryd.func27, Tryd.ntmps27
        go_wp2_with (go_at_call 29; refine (Tryd.strconv_ParseUint_10_at64_ok s hs' u Hp.out _).mono ?_; rintro e w1 ⟨rfl, hw1⟩)
        have hb1 : Below w.heap.size w w1 := by
          rcases hw1 with h | h
          · rw [h]; exact Below.refl _ _
          · rw [h]; exact Lib.bytesWorld_below _ _ _
        clear hw1
        refine (clockText_any u (by omega) (by omega) w1 (hL.below hb1)).mono ?_
        rintro e w2 ⟨rfl, hb2⟩
        go_wp2_with fail
        go_ret2
        have ht := Ht.out
        exact ⟨by rw [HT.out]; simp only [ht, if_true, if_false]; rfl, hb1.trans (hb2.mono hb1.size)⟩
    case inr.inl =>
      have hT : ckParse s.data.toList = (0, false) := by
        have h := HN.out
        simp only [ckParse, h, if_false, hp]
      have HT := Lib.hid hT
      have Hp := Lib.hid hp
      clear hT hp
      obtain ⟨tp, p, hsyn⟩ := hL.syn
      have HS := Lib.hid hsyn
      clear hsyn
      go_enter Tryd.func27, Tryd.ntmps27
      go_wp2_with (go_at_call 29; refine (Tryd.strconv_ParseUint_10_at64_syntax_var s hs Hp.out tp p _ HS.out).mono ?_; rintro e w1 ⟨N, rfl, hN, hN2, hb1⟩)
      go_ret2
      exact ⟨by rw [HT.out]; rfl, hb1⟩
    case inr.inr =>
      have hT : ckParse s.data.toList = (0, false) := by
        have h := HN.out
        simp only [ckParse, h, if_false, hp]
      have HT := Lib.hid hT
      have Hp := Lib.hid hp
      clear hT hp
      obtain ⟨tp, p, hrng⟩ := hL.rng
      have HS := Lib.hid hrng
      clear hrng
      go_enter Tryd.func27, Tryd.ntmps27
      go_wp2_with (go_at_call 29; refine (Tryd.strconv_ParseUint_10_at64_range_var s hs Hp.out tp p _ HS.out).mono ?_; rintro e w1 ⟨N, rfl, hN, hN2, hb1⟩)
      go_ret2
      exact ⟨by rw [HT.out]; rfl, hb1⟩
end Go.Proofs.YtdkbcboajjilfaaDoor
