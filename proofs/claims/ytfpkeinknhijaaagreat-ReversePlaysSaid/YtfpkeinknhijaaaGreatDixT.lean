/- Which tags are right, by the document. -/
import Derived.Test.YtfpkeinknhijaaaGreatDixA
import Derived.Laws.Cover1
namespace Go.Proofs.YtfpkeinknhijaaaGreat
set_option linter.unusedVariables false
open Go.RowKit Go.Maps Go.Sort

/-- The first k tags are right and rise. -/
def TagP (ts : List (List UInt8)) (k : Nat) : Prop := (∀ t ∈ ts.take k, validB t = true) ∧ (ts.take k).Pairwise (· < ·)
theorem TagP.zero (ts : List (List UInt8)) : TagP ts 0 := ⟨fun t h => (by simp at h), List.Pairwise.nil⟩
theorem TagP.step {ts : List (List UInt8)} {k : Nat} {t : List UInt8} (h : TagP ts k) (ht : ts[k]? = some t) (hv : validB t = true) (hp : ∀ p, 0 < k → ts[k - 1]? = some p → p < t) : TagP ts (k + 1) := by
  have e : ts.take (k + 1) = ts.take k ++ [t] := by rw [List.take_add_one, ht]; rfl
  refine ⟨fun x hx => ?_, ?_⟩
  · rw [e] at hx
    rcases List.mem_append.1 hx with h1 | h1
    · exact h.1 x h1
    · rw [List.mem_singleton.1 h1]; exact hv
  · rw [e]
    refine List.pairwise_append.2 ⟨h.2, List.pairwise_singleton _ _, fun x hx y hy => ?_⟩
    rw [List.mem_singleton.1 hy]
    have h0 : 0 < k := by
      rcases Nat.eq_zero_or_pos k with h0 | h0
      · subst h0; simp at hx
      · exact h0
    have hl := (List.getElem?_eq_some_iff.1 ht).1
    have hk : ts[k - 1]? = some ts[k - 1] := List.getElem?_eq_getElem (by omega)
    have h2 := hp _ h0 hk
    obtain ⟨i, hi, hxi⟩ := List.mem_iff_getElem.1 hx
    rw [List.length_take] at hi
    rw [List.getElem_take] at hxi
    rcases Nat.lt_or_ge i (k - 1) with h3 | h3
    · have h4 := List.pairwise_iff_getElem.1 h.2 i (k - 1) (by rw [List.length_take]; omega) (by rw [List.length_take]; omega) h3
      rw [List.getElem_take, List.getElem_take, hxi] at h4
      exact List.lt_trans h4 h2
    · have : i = k - 1 := by omega
      subst this
      rw [← hxi]
      exact h2
theorem TagP.all_ {ts : List (List UInt8)} (h : TagP ts ts.length) : tagsB ts = decide (ts.length ≤ 16) := by
  unfold TagP at h
  rw [List.take_length] at h
  unfold tagsB
  rw [List.all_eq_true.2 h.1, decide_eq_true h.2]
  rfl
theorem TagP.bad {ts : List (List UInt8)} {k : Nat} {t : List UInt8} (ht : ts[k]? = some t) (h : validB t = false ∨ ∃ p, 0 < k ∧ ts[k - 1]? = some p ∧ ¬ p < t) : tagsB ts = false := by
  cases hb : tagsB ts with
  | false => rfl
  | true =>
    obtain ⟨h1, h2, -, -⟩ := tagsB_is hb
    rcases h with h | ⟨p, h0, hp, hn⟩
    · have := h1 t (List.mem_of_getElem? ht)
      rw [h] at this
      cases this
    · obtain ⟨l1, r1⟩ := List.getElem?_eq_some_iff.1 ht
      obtain ⟨l2, r2⟩ := List.getElem?_eq_some_iff.1 hp
      have := List.pairwise_iff_getElem.1 h2 (k - 1) k l2 l1 (by omega)
      rw [r1, r2] at this
      exact absurd this hn
theorem validB_cases (t : List UInt8) : (t.length < 1 ∧ validB t = false) ∨ (64 < t.length ∧ validB t = false) ∨ (1 ≤ t.length ∧ t.length ≤ 64 ∧ validB t = true) := by
  unfold validB
  by_cases h1 : 1 ≤ t.length
  · by_cases h2 : t.length ≤ 64
    · exact .inr (.inr ⟨h1, h2, by simp [h1, h2]⟩)
    · exact .inr (.inl ⟨by omega, by simp [h2]⟩)
  · exact .inl ⟨by omega, by simp [h1]⟩
set_option maxHeartbeats 8000000 in
set_option maxRecDepth 100000 in
theorem xtags_any (v : Value) (ts : List (List UInt8)) (w : World) (h : Reads w v (ts.map encStr)) (hl : ts.length ≤ 1000000) :
    Calls Tryz.prog 39 #[v] w fun e w' => e = .returned (.bool (tagsB ts)) ∧ Below w.heap.size w w' := by
  obtain ⟨p, cap, rfl, -, hc⟩ := h
  rw [List.length_map] at hc ⊢
  obtain ⟨N, hN⟩ : ∃ N, ts.length = N := ⟨_, rfl⟩
  rw [hN] at hc hl ⊢
  have HN := Lib.hid hN
  have HC := Lib.hid hc
  obtain ⟨res, hres⟩ : ∃ res, tagsB ts = res := ⟨_, rfl⟩
  rw [hres]
  have HRES := Lib.hid hres
  clear hc hN hres
  go_enter Tryz.func39, Tryz.ntmps39
  go_wp2_with fail
  go_loopg [3] N (fun r s3 wr => ∃ k : Nat, r + k = N ∧ s3 = .int .i64 (k : Int) ∧ Hid (TagP ts k) ∧ Below w.heap.size w wr)
  case atStart => exact ⟨0, by omega, rfl, TagP.zero ts, Below.refl _ _⟩
  case round =>
    obtain ⟨k, hr, rfl, HT, hb⟩ := hrel
    have HR := Lib.hid hr
    have HB := Lib.hid hb
    have hkN : k ≤ N := by omega
    clear hr hb
    by_cases hlt : k < N
    · obtain ⟨t, ht⟩ : ∃ t, ts[k]? = some t := ⟨_, List.getElem?_eq_getElem (by rw [HN.out]; exact hlt)⟩
      rcases HC.out with h0 | ⟨blk, off, hp, hbl, hcap, hcell⟩
      · omega
      · have nk := (HB.out.cell (p := ⟨blk, off + k, none⟩) hbl).trans (hcell k (.string ⟨t.toArray⟩) (by rw [List.getElem?_map, ht]; rfl))
        have HTK := Lib.hid ht
        subst hp
        have hsz : (⟨t.toArray⟩ : ByteArray).size = t.length := by show t.toArray.size = _; simp
        rcases validB_cases t with ⟨h1, hv⟩ | ⟨h1, hv⟩ | ⟨h1, h2, hv⟩
        · have hbad := Lib.hid (TagP.bad ht (.inl hv))
          have c1 : ((⟨t.toArray⟩ : ByteArray).size : Int) < 1 := by rw [hsz]; omega
          clear hcell ht hv hsz
          generalize (⟨t.toArray⟩ : ByteArray) = tb at *
          go_wp2_with fail
          go_quiet (fail)
          go_wp2_with fail
          go_ret
          exact ⟨by rw [← HRES.out, hbad.out]; first | done | rfl, below_drewN HB.out _⟩
        · have hbad := Lib.hid (TagP.bad ht (.inl hv))
          have c1 : ¬ ((⟨t.toArray⟩ : ByteArray).size : Int) < 1 := by rw [hsz]; omega
          have c2 : (64 : Int) < ((⟨t.toArray⟩ : ByteArray).size : Int) := by rw [hsz]; omega
          clear hcell ht hv hsz
          generalize (⟨t.toArray⟩ : ByteArray) = tb at *
          have c4 : decide ((64 : Int) < (tb.size : Int)) = true := decide_eq_true c2
          have c5 : decide ((tb.size : Int) < 1) = false := decide_eq_false c1
          clear h1
          go_wp2_with fail
          go_quiet (fail)
          go_wp2_with fail
          go_ret
          exact ⟨by rw [← HRES.out, hbad.out]; first | done | rfl, below_drewN HB.out _⟩
        · have c1 : ¬ ((⟨t.toArray⟩ : ByteArray).size : Int) < 1 := by rw [hsz]; omega
          have c2 : ¬ (64 : Int) < ((⟨t.toArray⟩ : ByteArray).size : Int) := by rw [hsz]; omega
          have HV := Lib.hid hv
          rcases Nat.eq_zero_or_pos k with h0 | h0
          · subst h0
            rw [Nat.add_zero] at nk
            have HS : Hid (TagP ts 1) := TagP.step HT ht hv (fun p h _ => absurd h (Nat.lt_irrefl 0))
            clear hcell ht hv hsz h1 h2
            generalize (⟨t.toArray⟩ : ByteArray) = tb at *
            have c4 : decide ((64 : Int) < (tb.size : Int)) = false := decide_eq_false c2
            have c5 : decide ((tb.size : Int) < 1) = false := decide_eq_false c1
            go_wp2_with fail
            go_big_quiet (fail)
            go_wp2_with fail
            go_roundg (N - 1)
            case measure => have := HR.out; omega
            case rel => exact ⟨1, by omega, rfl, HS, below_drewN HB.out _⟩
          · obtain ⟨m, rfl⟩ : ∃ m, k = m + 1 := ⟨k - 1, by omega⟩
            obtain ⟨q, hq⟩ : ∃ q, ts[m]? = some q := ⟨_, List.getElem?_eq_getElem (by rw [HN.out]; omega)⟩
            have nm := (HB.out.cell (p := ⟨blk, off + m, none⟩) hbl).trans (hcell m (.string ⟨q.toArray⟩) (by rw [List.getElem?_map, hq]; rfl))
            have hk1 : ((m + 1 : Nat) : Int) - 1 = (m : Int) := by omega
            have hidx : ((m + 1 : Nat) : Int) = (m : Int) + 1 := by omega
            have hm2 : (m : Int) < (N : Int) := by omega
            have hk0 : (0 : Int) < (m : Int) + 1 := by omega
            have c4 : decide ((64 : Int) < ((⟨t.toArray⟩ : ByteArray).size : Int)) = false := decide_eq_false c2
            have c5 : decide (((⟨t.toArray⟩ : ByteArray).size : Int) < 1) = false := decide_eq_false c1
            have c6 : decide ((64 : Int) < (t.length : Int)) = false := decide_eq_false (by omega)
            have c7 : decide ((t.length : Int) < 1) = false := decide_eq_false (by omega)
            have c8 : decide ((0 : Int) < (m : Int) + 1) = true := decide_eq_true hk0
            by_cases hqt : q < t
            · have c3 : Op.bytesLess q t = true := by rw [bytesLess_eq]; exact decide_eq_true hqt
              have HS : Hid (TagP ts (m + 1 + 1)) := TagP.step HT ht hv (fun p _ hp => by
                rw [Nat.add_sub_cancel, hq] at hp
                injection hp with hp
                rw [← hp]
                exact hqt)
              clear hcell ht hv hq hqt
              go_wp2_with fail
              go_big_quiet (fail)
              go_wp2_with fail
              go_roundg (N - (m + 1 + 1))
              case measure => have := HR.out; omega
              case rel => exact ⟨m + 1 + 1, by omega, by go_num, HS, below_drewN HB.out _⟩
            · have c3 : Op.bytesLess q t = false := by rw [bytesLess_eq]; exact decide_eq_false hqt
              have hbad := Lib.hid (TagP.bad ht (.inr ⟨q, h0, by rw [Nat.add_sub_cancel]; exact hq, hqt⟩))
              clear hcell ht hv hq hqt
              go_wp2_with fail
              go_big_quiet (fail)
              go_wp2_with fail
              go_ret
              exact ⟨by rw [← HRES.out, hbad.out]; first | done | rfl, below_drewN HB.out _⟩
    · obtain rfl : k = N := by omega
      have HT2 : Hid (tagsB ts = decide (k ≤ 16)) := by have h := HT; unfold Hid at h; rw [← HN.out] at h; have := TagP.all_ h; rw [HN.out] at this; exact this
      by_cases h16 : k ≤ 16
      · rw [decide_eq_true h16] at HT2
        have h16' : (k : Int) ≤ 16 := by omega
        go_wp2_with fail
        go_ret
        exact ⟨by rw [← HRES.out, HT2.out]; first | done | rfl | simp, HB.out⟩
      · rw [decide_eq_false h16] at HT2
        have h16' : ¬ (k : Int) ≤ 16 := by omega
        go_wp2_with fail
        go_ret
        exact ⟨by rw [← HRES.out, HT2.out]; first | done | rfl | simp, HB.out⟩
end Go.Proofs.YtfpkeinknhijaaaGreat
