/- Two lists of strings that are equal. -/
import Derived.Test.YtfpkeinknhijaaaGreatIntC
import Derived.BigQuiet
namespace Go.Proofs.YtfpkeinknhijaaaGreat
set_option linter.unusedVariables false
open Go.RowKit Go.Maps Go.Sort

set_option maxHeartbeats 1000000 in
theorem strings_any (u v : Value) (l : List (List UInt8)) (w : World) (hu : Reads w u (l.map encStr)) (hv : Reads w v (l.map encStr)) :
    Calls Tryz.prog 24 #[u, v] w fun e w' => e = .returned (.bool true) ∧ Below w.heap.size w w' := by
  obtain ⟨p, cp, rfl, hl, hu⟩ := hu
  obtain ⟨q, cq, rfl, _, hv⟩ := hv
  rw [List.length_map] at hu hv hl ⊢
  obtain ⟨N, hN⟩ : ∃ N, l.length = N := ⟨_, rfl⟩
  rw [hN] at hu hv hl ⊢
  rcases Nat.eq_zero_or_pos N with h0 | h0
  · subst h0
    clear hu hv hN hl
    go_enter Tryz.func24, Tryz.ntmps24
    go_wp2_with fail
    go_loopg [5] 0 (fun r i wr => r = 0 ∧ i = .int .i64 0 ∧ w = wr)
    case atStart => exact ⟨rfl, rfl, rfl⟩
    case round =>
      obtain ⟨_, rfl, rfl⟩ := hrel
      go_wp2_with fail
      go_ret
      exact ⟨rfl, Below.refl _ _⟩
  · rcases hu with h | ⟨b1, o1, rfl, hb1, hc1, hx1⟩
    · omega
    rcases hv with h | ⟨b2, o2, rfl, hb2, hc2, hx2⟩
    · omega
    have HN := Lib.hid hN
    have HX1 := Lib.hid hx1
    have HX2 := Lib.hid hx2
    clear hN hx1 hx2
    go_enter Tryz.func24, Tryz.ntmps24
    go_wp2_with fail
    go_loopg [5] N (fun r i wr => ∃ k : Nat, k ≤ N ∧ r + k = N ∧ i = .int .i64 k ∧ Below w.heap.size w wr)
    case atStart => exact ⟨0, by omega, by omega, rfl, Below.refl _ _⟩
    case round =>
      obtain ⟨k, hk, hr, rfl, hb⟩ := hrel
      have HR := Lib.hid hr
      have HB := Lib.hid hb
      clear hr
      by_cases hlt : k < N
      · have hg : l[k]? = some (l[k]'(by have := HN.out; omega)) := List.getElem?_eq_getElem _
        obtain ⟨X, hX⟩ : ∃ X, l[k]? = some X := ⟨_, hg⟩
        have hm : (l.map encStr)[k]? = some (encStr X) := by rw [List.getElem?_map, hX]; rfl
        have c1 := (hb.cell (p := ⟨b1, o1 + k, none⟩) hb1).trans (HX1.out k _ hm)
        have c2 := (hb.cell (p := ⟨b2, o2 + k, none⟩) hb2).trans (HX2.out k _ hm)
        unfold encStr at c1 c2
        clear hb hg hX hm
        generalize (⟨X.toArray⟩ : ByteArray) = S at *
        go_wp2_with fail
        go_quiet (fail)
        go_wp2_with fail
        go_roundg (gk - 1)
        case measure => have := HR.out; omega
        case rel => exact ⟨k + 1, by omega, by have := HR.out; omega, by go_num, below_drewN HB.out _⟩
      · obtain rfl : k = N := by omega
        clear hb
        go_wp2_with fail
        go_ret
        exact ⟨rfl, HB.out⟩
end Go.Proofs.YtfpkeinknhijaaaGreat
