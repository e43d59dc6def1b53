/- IndexFunc and DeleteFunc at []uint64 with a function that may make memory; Right. -/
import Derived.Test.YthngkimncdpekaaRevB
import Derived.Lib.SliceRun
namespace Go.Proofs.Ythngkimncdpekaa
set_option linter.unusedVariables false
open Go.RowKit Go.Maps Go.Sort

theorem owns_setCells {B : Nat} {e : TypeId} {g n cap : Nat} : ∀ {vs : List Value} {o : Nat} {w : World} {xs : List Value}, w.ownsRow B e 1 (.slice (some ⟨g, 0, none⟩) n cap) n xs → ∃ ys, (w.setCells g o vs).ownsRow B e 1 (.slice (some ⟨g, 0, none⟩) n cap) n ys ∧ ys.take o = xs.take o
  | [], _, _, xs, h => ⟨xs, h, rfl⟩
  | v :: vs, o, w, xs, h => by
    obtain ⟨ys, h1, h2⟩ := owns_setCells (vs := vs) (o := o + 1) (h.stored o v).1
    refine ⟨ys, h1, ?_⟩
    have := congrArg (List.take o) h2
    rw [List.take_take, List.take_take, Nat.min_eq_left (Nat.le_succ o)] at this
    rw [this, List.take_set_of_le (Nat.le_refl _)]
theorem owns_cut {B : Nat} {e : TypeId} {g n cap : Nat} {w : World} {xs : List Value} (h : w.ownsRow B e 1 (.slice (some ⟨g, 0, none⟩) n cap) n xs) {i : Nat} (hi : i ≤ n) : w.ownsRow B e 1 (.slice (some ⟨g, 0, none⟩) i cap) i (xs.take i) := by
  have hl := h.1
  rcases h.2 with ⟨h', _⟩ | ⟨g', cap', cur, h', hb, hg, hnc, hcm, hcs, htake⟩
  · simp at h'
  · simp only [Value.slice.injEq, Option.some.injEq, Addr.mk.injEq, and_true, true_and] at h'
    obtain ⟨rfl, rfl⟩ := h'
    refine ⟨by rw [List.length_take]; omega, .inr ⟨g, cap, cur, rfl, hb, hg, by omega, hcm, hcs, ?_⟩⟩
    rw [← htake, List.take_take, Nat.mul_one, Nat.mul_one, Nat.min_eq_left hi]
theorem only_setCells {w : World} {g : Nat} (o : Nat) (vs : List Value) : Only (fun z => z = g) w (w.setCells g o vs) := by
  have : ∀ (vs : List Value) (o : Nat) (w : World), Only (fun z => z = g) w (w.setCells g o vs) := by
    intro vs
    induction vs with
    | nil => intro o w; exact Only.refl _ _
    | cons v vs ih => intro o w; exact ((Only.refl (fun z => z = g) w).setCell1 (g := g) (.inl rfl) o v).trans (ih (o + 1) _) (fun _ h => .inl h)
  exact this vs o w
/-- A function value that tells of each element what q says, in any world that has turned only in block g. -/
def Tells (w : World) (g : Nat) (fn : Nat) (lb : Array Value) (q : Nat → Bool) (L : List Nat) : Prop :=
  ∀ W, Only (fun z => z = g) w W → ∀ u ∈ L, Calls Try.prog fn (#[.int .u64 (u : Int)] ++ lb) W fun e w' => e = .returned (.bool (q u)) ∧ Below W.heap.size W w'
section
variable {fn : Nat} {lb : Array Value} {q : Nat → Bool} {w : World} {g B cap : Nat} {L : List Nat}
set_option maxHeartbeats 1000000 in
set_option maxRecDepth 100000 in
theorem idxf_any (eg : ∀ args w, Sem.run Try.prog (callFunc fn args) w = .ok (.enter fn args) w) (h : w.ownsRow B 29 1 (.slice (some ⟨g, 0, none⟩) L.length cap) L.length (idsV L)) (hl : L.length ≤ 1000000) (ht : Tells w g fn lb q L) :
    Calls Try.prog 98 #[.slice (some ⟨g, 0, none⟩) L.length cap, .func (.func fn) #[] lb] w fun e w' => e = .returned (.int .i64 (idxI (L.findIdx? q))) ∧ Below w.heap.size w w' := by
  obtain ⟨N, hN⟩ : ∃ N, L.length = N := ⟨_, rfl⟩
  have HN := Lib.hid hN
  have HR := Lib.hid h
  have HT := Lib.hid ht
  rw [hN] at h hl ⊢
  obtain ⟨r0, hr0⟩ : ∃ r0, r0 = idxI (L.findIdx? q) := ⟨_, rfl⟩
  rw [← hr0]
  have HR0 := Lib.hid hr0
  clear h ht hr0 hN
  go_enter Try.func98, Try.ntmps98
  go_wp2_with fail
  go_loopg [8] N (fun r v wr => ∃ k : Nat, r + k = N ∧ v = .int .i64 (k : Int) ∧ Below w.heap.size w wr ∧ ∀ j (hj : j < L.length), j < k → q L[j] = false)
  case atStart => exact ⟨0, by omega, rfl, Below.refl _ _, fun j _ h => by omega⟩
  case round =>
    obtain ⟨k, hk, rfl, hb, hq⟩ := hrel
    have HK := Lib.hid hk
    have HQ := Lib.hid hq
    have HB := Lib.hid hb
    have hkn : k ≤ N := by omega
    clear hk hq hb
    by_cases hlt : k < N
    · have hlt2 : k < L.length := by rw [HN.out]; exact hlt
      have hc := (HR.out.cellAt k (by omega))
      rw [List.getElem?_map, List.getElem?_eq_getElem hlt2] at hc
      have hc2 : wr.cell? ⟨g, k, none⟩ = some (.int .u64 (L[k] : Int)) := (HB.out.cell (p := ⟨g, k, none⟩) (HR.out.lt g rfl).2).trans hc
      have hcall := HT.out wr (Only.of_below HB.out _) L[k] (List.getElem_mem hlt2)
      clear hc
      obtain ⟨u, hu⟩ : ∃ u, L[k] = u := ⟨_, rfl⟩
      rw [hu] at hc2 hcall
      have HU := Lib.hid hu
      have HCALL := Lib.hid hcall
      clear hu hcall
      cases hqu : q u with
      | true =>
        rw [hqu] at HCALL
        have HQU := Lib.hid hqu
        clear hqu
        go_wp2_with (go_at_fn fn; refine HCALL.out.mono ?_; rintro e w' ⟨rfl, b1⟩)
        go_ret
        refine ⟨?_, HB.out.trans (b1.mono HB.out.size)⟩
        have : L.findIdx? q = some k := by
          rw [List.findIdx?_eq_some_iff_getElem]
          exact ⟨hlt2, by rw [HU.out]; exact HQU.out, fun j hj => by have := HQ.out j (by omega) hj; rw [this]; decide⟩
        rw [HR0.out, this]
        rfl
      | false =>
        rw [hqu] at HCALL
        have HQU := Lib.hid hqu
        clear hqu
        go_wp2_with (go_at_fn fn; refine HCALL.out.mono ?_; rintro e w' ⟨rfl, b1⟩)
        go_roundg (N - (k + 1))
        case measure => have := HK.out; omega
        case rel =>
          refine ⟨k + 1, by omega, by go_num, HB.out.trans (b1.mono HB.out.size), fun j hj hjk => ?_⟩
          by_cases e : j = k
          · subst e
            rw [HU.out]
            exact HQU.out
          · exact HQ.out j hj (by omega)
    · obtain rfl : k = N := by omega
      go_wp2_with fail
      go_ret
      refine ⟨?_, HB.out⟩
      have : L.findIdx? q = none := by
        rw [List.findIdx?_eq_none_iff]
        intro x hx
        obtain ⟨j, hj, rfl⟩ := List.mem_iff_getElem.1 hx
        exact HQ.out j hj (by rw [← HN.out]; exact hj)
      rw [HR0.out, this]
      rfl
theorem u64_zero (w : World) : Sem.run Try.prog (zeroValue 29) w = .ok (.int .u64 0) w := by kernel_rfl
theorem u64_sl : Try.prog.underlying 85 = some (.slice 29) := Try.underlying85
set_option maxHeartbeats 2000000 in
set_option maxRecDepth 100000 in
theorem delf_any (eg : ∀ args w, Sem.run Try.prog (callFunc fn args) w = .ok (.enter fn args) w) (h : w.ownsRow B 29 1 (.slice (some ⟨g, 0, none⟩) L.length cap) L.length (idsV L)) (hl : L.length ≤ 1000000) (ht : Tells w g fn lb q L) :
    Calls Try.prog 77 #[.slice (some ⟨g, 0, none⟩) L.length cap, .func (.func fn) #[] lb] w fun e w' => e = .returned (.slice (some ⟨g, 0, none⟩) (L.filter fun u => !q u).length cap) ∧ w'.ownsRow B 29 1 (.slice (some ⟨g, 0, none⟩) (L.filter fun u => !q u).length cap) (L.filter fun u => !q u).length (idsV (L.filter fun u => !q u)) ∧ Only (fun z => z = g) w w' := by
  obtain ⟨N, hN⟩ : ∃ N, L.length = N := ⟨_, rfl⟩
  have HI := Lib.hid (idxf_any eg h hl ht)
  have HN := Lib.hid hN
  have HR := Lib.hid h
  have HT := Lib.hid ht
  rw [hN] at h hl HI ⊢
  have hcapN : N ≤ cap := by
    rcases h.2 with ⟨h', _⟩ | ⟨g', cap', cur, h', _, _, hnc, _⟩
    · simp at h'
    · simp only [Value.slice.injEq, Option.some.injEq, Addr.mk.injEq, and_true, true_and] at h'
      omega
  obtain ⟨F, hF⟩ : ∃ F, F = L.filter fun u => !q u := ⟨_, rfl⟩
  rw [← hF]
  have HF := Lib.hid hF
  clear h ht hF hN
  cases hfi : L.findIdx? q with
  | none =>
    rw [hfi] at HI
    have hall : F = L := by
      rw [HF.out, List.filter_eq_self]
      rw [List.findIdx?_eq_none_iff] at hfi
      intro x hx
      rw [hfi x hx]
      rfl
    have HA := Lib.hid hall
    clear hfi hall
    change Hid (Calls _ _ _ _ fun e w' => e = .returned (.int .i64 (-1)) ∧ _) at HI
    go_enter Try.func77, Try.ntmps77
    go_wp2_with (go_at_call 98; refine HI.out.mono ?_; rintro e w1 ⟨rfl, b1⟩)
    go_ret
    rw [HA.out]
    exact ⟨by rw [HN.out]; rfl, ownsRow_below HR.out b1, Only.of_below b1 _⟩
  | some k =>
    rw [hfi] at HI
    have HFI := Lib.hid hfi
    have hk0 : k < N := by
      rw [List.findIdx?_eq_some_iff_getElem] at hfi
      obtain ⟨h1, _⟩ := hfi
      rw [← HN.out]
      exact h1
    have hne1 : ((k : Int) == -1) = false := beq_eq_false_iff_ne.2 (by omega)
    change Hid (Calls _ _ _ _ fun e w' => e = .returned (.int .i64 (k : Int)) ∧ _) at HI
    clear hfi
    go_enter Try.func77, Try.ntmps77
    go_wp2_with (go_at_call 98; refine HI.out.mono ?_; rintro e w1 ⟨rfl, b1⟩)
    have HB1 := Lib.hid b1
    clear b1
    go_loopg [5, 6, 7] N (fun r s5 s6 s7 wr => ∃ (i j : Nat) (M : List Nat), s5 = .int .i64 (i : Int) ∧ s6 = .int .i64 (j : Int) ∧ i < j ∧ j ≤ N ∧ N - j ≤ r ∧ M.length = N ∧ M.take i = (L.take j).filter (fun u => !q u) ∧ M.drop j = L.drop j ∧ wr.ownsRow B 29 1 (.slice (some ⟨g, 0, none⟩) N cap) N (idsV M) ∧ Only (fun z => z = g) w wr)
    case atStart =>
      refine ⟨k, k + 1, L, rfl, by go_num, by omega, by omega, by omega, HN.out, ?_, rfl, ?_, Only.of_below HB1.out _⟩
      · have h1 := HFI.out
        rw [List.findIdx?_eq_some_iff_getElem] at h1
        obtain ⟨h2, h3, h4⟩ := h1
        rw [List.take_add_one, List.getElem?_eq_getElem h2, List.filter_append]
        simp only [Option.toList_some, List.filter_cons, h3, Bool.not_true, Bool.false_eq_true, if_false, List.filter_nil, List.append_nil]
        symm
        rw [List.filter_eq_self]
        intro x hx
        obtain ⟨j, hj, rfl⟩ := List.mem_iff_getElem.1 hx
        rw [List.length_take] at hj
        rw [List.getElem_take]
        have := h4 j (by omega)
        simpa using this
      · have := ownsRow_below HR.out HB1.out
        rw [HN.out] at this
        exact this
    case round =>
      obtain ⟨i, j, M, rfl, rfl, hij, hjn, hr, hM, hMt, hMd, hrow, honly⟩ := hrel
      have HML := Lib.hid hM
      have HMT := Lib.hid hMt
      have HMD := Lib.hid hMd
      have HROW := Lib.hid hrow
      have HO := Lib.hid honly
      clear hM hMt hMd hrow honly
      by_cases hlt : j < N
      · have hlt2 : j < L.length := by rw [HN.out]; exact hlt
        have hMj : M[j]? = some L[j] := by
          have h1 : (M.drop j)[0]? = (L.drop j)[0]? := by rw [HMD.out]
          rw [List.getElem?_drop, List.getElem?_drop, Nat.add_zero, List.getElem?_eq_getElem hlt2] at h1
          exact h1
        have hc := HROW.out.cellAt j (by omega)
        rw [List.getElem?_map, hMj] at hc
        change wr.cell? ⟨g, j, none⟩ = some (.int .u64 (L[j] : Int)) at hc
        have hci : ∃ old, wr.cell? ⟨g, i, none⟩ = some old := by
          rw [HROW.out.cellAt i (by omega), List.getElem?_map, List.getElem?_eq_getElem (by rw [HML.out]; omega)]
          exact ⟨_, rfl⟩
        obtain ⟨old, hci⟩ := hci
        have hcall := HT.out wr HO.out L[j] (List.getElem_mem hlt2)
        obtain ⟨u, hu⟩ : ∃ u, L[j] = u := ⟨_, rfl⟩
        rw [hu] at hc hcall
        have HU := Lib.hid hu
        have HCALL := Lib.hid hcall
        clear hu hcall hMj
        have hgl : g < wr.heap.size := (HROW.out.lt g rfl).2
        cases hqu : q u with
        | true =>
          rw [hqu] at HCALL
          have HQU := Lib.hid hqu
          clear hqu hci
          go_wp2_with (go_at_fn fn; refine HCALL.out.mono ?_; rintro e w' ⟨rfl, b1⟩)
          go_roundg (N - (j + 1))
          case measure => omega
          case rel =>
            refine ⟨i, j + 1, M, rfl, by go_num, by omega, by omega, by omega, HML.out, ?_, ?_, ownsRow_below HROW.out b1, HO.out.trans (Only.of_below b1 (fun z => z = g)) (fun _ h => .inl h)⟩
            · rw [HMT.out, List.take_add_one, List.getElem?_eq_getElem hlt2, List.filter_append, HU.out]
              simp [HQU.out]
            · rw [← List.drop_drop, HMD.out, List.drop_drop]
        | false =>
          rw [hqu] at HCALL
          have HQU := Lib.hid hqu
          clear hqu
          go_wp2_with (go_at_fn fn; refine HCALL.out.mono ?_; rintro e w' ⟨rfl, b1⟩; have hci2 := (b1.cell (p := ⟨g, i, none⟩) hgl).trans hci; have hfz := (ownsRow_below HROW.out b1).frozenAt i)
          have HST := Lib.hid ((ownsRow_below HROW.out b1).stored i (.int .u64 (u : Int)))
          have HO2 : Hid (Only (fun z => z = g) w (w'.setCell ⟨g, i, none⟩ (.int .u64 (u : Int)))) := (HO.out.trans (Only.of_below b1 (fun z => z = g)) (fun _ h => .inl h)).setCell1 (g := g) (.inl rfl) i _
          clear hci2 hfz b1
          go_roundg (N - (j + 1))
          case measure => omega
          case rel =>
            refine ⟨i + 1, j + 1, M.set i u, by go_num, by go_num, by omega, by omega, by omega, by rw [List.length_set]; exact HML.out, ?_, ?_, ?_, HO2.out⟩
            · rw [List.take_add_one, List.getElem?_set_self (by rw [HML.out]; omega), List.take_set_of_le (Nat.le_refl _), HMT.out, List.take_add_one, List.getElem?_eq_getElem hlt2, List.filter_append, HU.out]
              simp [HQU.out]
            · rw [List.drop_set_of_lt (by omega), ← List.drop_drop, HMD.out, List.drop_drop]
            · have := HST.out.1
              rw [← List.map_set] at this
              exact this
      · obtain rfl : j = N := by omega
        have hcl : ∀ ty, Sem.run Try.prog (Builtin.clear_ #[85] ty #[.slice (some ⟨g, i, none⟩) (j - i) (cap - i)]) wr = .ok (.tuple #[]) (wr.setCells g i (List.replicate (j - i) (.int .u64 0))) :=
          fun ty => Lib.run_clear_slice wr _ _ ty _ u64_sl u64_zero rfl rfl g i _ _ (by omega) (fun t ht => by
            rw [HROW.out.cellAt (i + t) (by omega), List.getElem?_map, List.getElem?_eq_getElem (by rw [HML.out]; omega)]; rfl) (fun t ht => HROW.out.frozenAt _)
        go_wp2
        go_ret
        have hFi : F = M.take i := by
          rw [HF.out, HMT.out, List.take_of_length_le (by rw [HN.out]; exact Nat.le_refl _)]
        have hFl : F.length = i := by rw [hFi, List.length_take, HML.out]; omega
        rw [hFl]
        obtain ⟨ys, y1, y2⟩ := owns_setCells (vs := List.replicate (j - i) (.int .u64 0)) (o := i) HROW.out
        have y3 := owns_cut y1 (i := i) (by omega)
        rw [y2] at y3
        refine ⟨rfl, ?_, HO.out.trans (only_setCells _ _) (fun _ h => .inl h)⟩
        rw [hFi]
        unfold idsV at y3 ⊢
        rw [← List.map_take] at y3
        exact y3
end
end Go.Proofs.Ythngkimncdpekaa
