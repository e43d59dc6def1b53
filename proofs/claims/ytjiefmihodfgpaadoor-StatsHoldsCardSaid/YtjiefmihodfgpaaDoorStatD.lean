/- Counts behind a pointer: raise. -/
import Derived.Test.YtjiefmihodfgpaaDoorStatC
import Derived.Test.YtjiefmihodfgpaaDoorBlk
import Derived.StillTailTactics
namespace Go.Proofs.YtjiefmihodfgpaaDoor
set_option linter.unusedVariables false
open Go.RowKit Go.Maps Go.Sort

def CntAt (w : World) (b : Nat) (l : List Int) : Prop := l.length = 16 ∧ Blk w b 48 (l.map (Value.int .u64)).toArray
theorem CntAt.cell {w : World} {b : Nat} {l : List Int} (h : CntAt w b l) (i : Nat) (hi : i < 16) : w.cell? ⟨b, i, none⟩ = some (.int .u64 (l.getD i 0)) := by
  rw [Blk.cell h.2 i]
  have hl : i < l.length := by rw [h.1]; exact hi
  simp [List.getD_eq_getElem?_getD, hl]

theorem plus_int (x y : Int) (hx : isU x) (hy : isU y) (w : World) :
    Calls Tryd.prog 38 #[.int .u64 x, .int .u64 y] w fun e w' => e = .returned (.int .u64 (plus64 x y)) ∧ w = w' := by
  obtain ⟨h1, h2⟩ := hx
  obtain ⟨h3, h4⟩ := hy
  obtain ⟨a, rfl⟩ := Int.eq_ofNat_of_zero_le h1
  obtain ⟨b, rfl⟩ := Int.eq_ofNat_of_zero_le h3
  exact plus_any a b (by omega) (by omega) w

set_option maxHeartbeats 1000000 in
set_option maxRecDepth 100000 in
theorem raise_any (b : Nat) (l : List Int) (j : Nat) (n : Int) (hj : j < 16) (hn : 0 ≤ n) (hn2 : n ≤ 9223372036854775807) (hU : ∀ x ∈ l, isU x) (w : World) (h : CntAt w b l) :
    Calls Tryd.prog 36 #[.pointer (some ⟨b, 0, none⟩), .int .i64 j, .int .i64 n] w fun e w' => e = .returned (.tuple #[]) ∧ CntAt w' b (raiseL l j n) ∧ w.grownBy w' (some b) := by
  have hux := getD_is hU j
  obtain ⟨x, hx⟩ : ∃ x, l.getD j 0 = x := ⟨_, rfl⟩
  have hc := h.cell j hj
  have hfz := Blk.frozen h.2 j
  have hj2 : (j : Int) < 16 := by omega
  have hr : raiseL l j n = l.set j (plus64 x n) := by unfold raiseL; rw [hx]
  rw [hx] at hc hux
  have H := Lib.hid h
  have HP : Hid (∀ w : World, Calls Tryd.prog 38 #[.int .u64 x, .int .u64 n] w fun e w' => e = .returned (.int .u64 (plus64 x n)) ∧ w = w') := fun w => plus_int x n hux ⟨hn, by omega⟩ w
  rw [hr]
  have q1 : IntKind.u64.wrap n = n := wraps_u64 _ hn (by omega)
  clear h hU hux hx hr
  go_enter Tryd.func36, Tryd.ntmps36
  go_wp2_with fail
  go_still_tail 14, (by kernel_rfl)
  still_call ((HP.out _).mono fun _ _ h => ⟨h.1, h.2.symm⟩)
  repeat still_step
  refine wpStill_nil ?_
  change wpList _ _ _ _ _ w.drew
  have HB : Blk w.drew b 48 (l.map (Value.int .u64)).toArray := H.out.2
  have hfz1 : w.drew.frozen? ⟨b, j, none⟩ = false := hfz
  have hc1 : w.drew.cell? ⟨b, j, none⟩ = some (.int .u64 x) := hc
  have hl := H.out.1
  have hg : w.grownBy w.drew (some b) := only_drewN (only_refl w (some b)) 1
  obtain ⟨W1, hW1⟩ : ∃ W1, w.drew = W1 := ⟨_, rfl⟩
  rw [hW1] at HB hfz1 hc1 hg ⊢
  clear hW1 hc hfz H HP
  have HB := Lib.hid HB
  have hg := Lib.hid hg
  go_wp2_with fail
  refine bodyPost_end (results_none Tryd.results36 _ _ _) rfl ?_
  refine ⟨rfl, ⟨by simp [hl], ?_⟩, only_setCell hg.out (.inl rfl) _⟩
  have := HB.out.set_ j (.int .u64 (plus64 x n))
  simpa [List.map_set] using this
end Go.Proofs.YtjiefmihodfgpaaDoor
