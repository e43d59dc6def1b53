/- The contract of key.Text. -/
import Derived.Test.YtbcfbdkacnnkgaaDoorTextD
import Derived.Test.YtbcfbdkacnnkgaaDoorBuild
import Derived.StillTailTactics
namespace Go.Proofs.YtbcfbdkacnnkgaaDoor
set_option linter.unusedVariables false
open Go.RowKit

theorem and15 (c : UInt8) : bits .and .u8 (c.toNat : Int) 15 = ((c.toNat % 16 : Nat) : Int) := by
  have := byte_all (fun c => decide (bits .and .u8 (c.toNat : Int) 15 = ((c.toNat % 16 : Nat) : Int))) (by decide +kernel) c
  exact of_decide_eq_true this

set_option maxHeartbeats 4000000 in
set_option maxRecDepth 100000 in
theorem keyText_any (s : ByteArray) (hs : s.size ≤ 1000000) (w : World) (hD : Digits w) :
    Calls Tryd.prog 32 #[.string s] w fun e w' => e = .returned (.tuple #[.string ⟨(kText s.data.toList).1.toArray⟩, .int .i64 (kText s.data.toList).2]) ∧ Below w.heap.size w w' := by
  have hsz : s.data.toList.length = s.size := by simp
  by_cases hlong : 250 < s.size
  · have HR := Lib.hid (kText_long s.data.toList (by omega))
    clear hsz
    go_enter Tryd.func32, Tryd.ntmps32
    go_wp2
    go_ret2
    rw [HR.out]
    exact ⟨rfl, Below.refl _ _⟩
  · have hshort := kText_short s.data.toList (by omega)
    by_cases h0 : s.size = 0
    · obtain rfl : s = ⟨#[]⟩ := by
        apply ByteArray.ext
        exact Array.eq_empty_of_size_eq_zero h0
      clear h0 hs hsz hlong hshort
      go_enter Tryd.func32, Tryd.ntmps32
      go_wp2
      go_ret2
      exact ⟨rfl, Below.refl _ _⟩
    · have hne : s.toList.isEmpty = false := by
        rw [ByteArray.toList_eq]
        cases h : s.data.toList with
        | nil => exfalso; apply h0; have : s.data.toList.length = 0 := by rw [h]; rfl
                 simpa using this
        | cons _ _ => rfl
      have hr : kText s.data.toList = (tBody s.data.toList, 0) := by
        rw [hshort, rText, if_neg]
        intro e
        apply h0
        rw [← hsz, e]; rfl
      have HR := Lib.hid hr
      have HD := Lib.hid hD
      have hle : s.size ≤ 250 := by omega
      clear hr hshort h0 hD hsz hlong
      go_enter Tryd.func32, Tryd.ntmps32
      go_wp2
      have hB0 : IsB w.heap.size w.heap.size (Lib.byteCells []) (w.alloc (.cells #[.pointer none, .slice none 0 0] 56)) := Lib.fresh_isBuilder _ _ w
      go_loopw [16] (fun i wr => ∃ k : Nat, k ≤ s.size ∧ i = .int .i64 k ∧ IsB w.heap.size w.heap.size (Lib.byteCells (tBody (s.data.toList.take k))) wr ∧ Below w.heap.size w wr) (fun i _ => s.size - (intOf i).toNat)
      case atStart => exact ⟨0, by omega, rfl, hB0, (Below.refl _ _).alloc (Nat.le_refl _) _⟩
      case round =>
        obtain ⟨k, hk, rfl, hB, hbl⟩ := hrel
        clear hB0
        have hwr := hbl.size
        by_cases hlt : k < s.size
        · have htk : s.data.toList.take (k + 1) = s.data.toList.take k ++ [s[k]] := by
            rw [List.take_add_one, List.getElem?_eq_getElem (by simpa using hlt)]
            rfl
          have hlen : (Lib.byteCells (tBody (s.data.toList.take k))).length ≤ 3000000 := by
            have := tBody_length (s.data.toList.take k)
            rw [List.length_take] at this
            rw [Lib.byteCells_length]
            omega
          have hstep : tBody (s.data.toList.take (k + 1)) = tBody (s.data.toList.take k) ++ tB s[k] := by
            rw [htk, tBody_append]
            show _ ++ (tB s[k] ++ []) = _
            rw [List.append_nil]
          have HS := Lib.hid hstep
          have HF := Lib.hid (okB_facts s[k])
          have hdig := HD.out.below hbl
          have HDG := Lib.hid hdig
          clear htk hstep hdig
          go_wp2_with (first
            | (go_at_call 42; refine (writeByte_any w.heap.size w.heap.size _ _ _ hB (by omega) hwr).mono ?_; rintro e w' ⟨rfl, hB', hb'⟩))
          case roundEnd =>
            have hok : okB s[k] = true := by
              rcases HF.out with ⟨h, _⟩ | ⟨h, h1⟩
              · exact h
              · exfalso
                simp only [bne_iff_ne, ne_eq] at *
                omega
            have hcells : Lib.byteCells (tB s[k]) = [.int .u8 (s[k].toNat : Int)] := by
              rw [tB, if_pos hok]; rfl
            refine ⟨⟨k + 1, by omega, by go_num, ?_, hbl.trans hb'⟩, by simp [intOf]; omega⟩
            rw [HS.out, Lib.byteCells_append, hcells]
            exact hB'
          all_goals
            have hn : s[k].toNat < 256 := s[k].toNat_lt
            have d1 := HDG.out (s[k].toNat / 16) (by omega)
            have d2 := HDG.out (s[k].toNat % 16) (by omega)
            have d3 : wr.cell? ⟨0, 2, none⟩ = some (.int .u8 50) := HDG.out 2 (by omega)
            have d4 : wr.cell? ⟨0, 5, none⟩ = some (.int .u8 53) := HDG.out 5 (by omega)
            have a1 := and15 s[k]
            have a2 : bits .and .u8 37 15 = 5 := by decide +kernel
            have a3 : bits .and .u8 34 15 = 2 := by decide +kernel
            have e1 : (0 : Int) ≤ (s[k].toNat : Int) / 16 := by omega
            have e2 : (s[k].toNat : Int) / 16 < 16 := by omega
            have e3 : ((s[k].toNat : Int) / 16).toNat = s[k].toNat / 16 := by omega
            have e4 : (0 : Int) ≤ (s[k].toNat : Int) % 16 := by omega
            have e5 : (s[k].toNat : Int) % 16 < 16 := by omega
            have e6 : ((s[k].toNat : Int) % 16).toNat = s[k].toNat % 16 := by omega
            go_still_tail 8, (by kernel_rfl)
            change wpList _ _ _ _ _ wr.drew
            obtain ⟨W1, hW1⟩ : ∃ W1, wr.drew = W1 := ⟨_, rfl⟩
            have hB1 : IsB w.heap.size w.heap.size (Lib.byteCells (tBody (s.data.toList.take k))) W1 := by rw [← hW1]; exact hB
            have hbl1 : Below w.heap.size w W1 := by rw [← hW1]; exact hbl.drew
            rw [hW1]
            clear hW1 hB hbl d1 d2 d3 d4 HDG
            go_wp2_with (go_at_call 43; refine (write3_any w.heap.size w.heap.size _ _ _ _ _ hB1 (by omega) hbl1.size).mono ?_; rintro e w' ⟨rfl, hB', hb'⟩)
            have hok : okB s[k] = false := by
              rcases HF.out with ⟨h, h1, h2, h3, h4⟩ | ⟨h, _⟩
              · exfalso
                try simp only [bne_eq_false_iff_eq] at *
                omega
              · exact h
            have hcells : Lib.byteCells (tB s[k]) = [.int .u8 37, .int .u8 ((hexD (s[k].toNat / 16)).toNat : Int), .int .u8 ((hexD (s[k].toNat % 16)).toNat : Int)] := by
              rw [tB, if_neg (by rw [hok]; simp)]; rfl
            refine ⟨⟨k + 1, by omega, by go_num, ?_, hbl1.trans hb'⟩, by simp [intOf]; omega⟩
            rw [HS.out, Lib.byteCells_append, hcells]
            first
              | exact hB'
              | (have e : s[k].toNat = 37 := by omega
                 rw [e]
                 exact hB')
        · obtain rfl : k = s.size := by omega
          have ht : s.data.toList.take s.size = s.data.toList := List.take_of_length_le (by simp)
          rw [ht] at hB
          go_wp2_with (first
            | (go_at_call 44; refine (Tryd.Builder_String_any w.heap.size w.heap.size _ _ hB hwr).mono ?_; rintro e w' ⟨rfl, hb'⟩))
          go_ret2
          rw [HR.out]
          exact ⟨rfl, hbl.trans hb'⟩
end Go.Proofs.YtbcfbdkacnnkgaaDoor
