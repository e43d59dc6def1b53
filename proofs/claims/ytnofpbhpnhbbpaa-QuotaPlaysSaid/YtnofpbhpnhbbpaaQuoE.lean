/- Contracts of Left and Ask. -/
import Derived.Test.YtnofpbhpnhbbpaaQuoD
import Derived.Deep.DeepCutAuto
namespace Go.Proofs.Ytnofpbhpnhbbpaa
set_option linter.unusedVariables false
open Go.RowKit Go.Maps Go.Sort

theorem acc_zero (W : World) : (zeroValue 71).run Try.prog W = .ok (accV accZ) W := by kernel_rfl
theorem look_any {w : World} {b n : Nat} {m : List (List UInt8 × Acc)} (h : MapA w b n m) {s : ByteArray} (hs : s.size ≤ maxLen) :
    Sem.run Try.prog (Instr.lookup 59 (.map (some b)) (.string s) false) w = .ok (accV (mget accZ m s.data.toList)) w :=
  h.lookup Try.underlying9 Try.underlying59 accZ_ok (acc_zero w) hs
theorem lookOk_any {w : World} {b n : Nat} {m : List (List UInt8 × Acc)} (h : MapA w b n m) {s : ByteArray} (hs : s.size ≤ maxLen) :
    Sem.run Try.prog (Instr.lookup 59 (.map (some b)) (.string s) true) w = .ok (.tuple #[accV (mget accZ m s.data.toList), .bool (mhas m s.data.toList)]) w :=
  h.lookOk Try.underlying9 Try.underlying59 accZ_ok (acc_zero w) hs
def leftA (c u : Nat) : Int := max 0 ((c : Int) - (u : Int))
set_option maxHeartbeats 1000000 in
set_option maxRecDepth 100000 in
theorem left_nil (t : Nat) (s : ByteArray) (w : World) : Calls Try.prog 13 #[.pointer none, .int .u64 (t : Int), .string s] w fun e w' => e = .returned (.tuple #[.int .i64 0, .int .i64 0, .int .i64 1]) ∧ w = w' := by
  go_enter Try.func13, Try.ntmps13
  go_wp2_with (go_at_call 22; refine (may_nil _ _ _ _).mono ?_; rintro e w' ⟨rfl, rfl⟩)
  exact bodyPost_ret (v := .tuple #[.int .i64 0, .int .i64 0, .int .i64 1]) (by simp [results, Try.results13, go_sem]) rfl ⟨rfl, rfl⟩
set_option maxHeartbeats 1000000 in
set_option maxRecDepth 100000 in
theorem left_bad (g b n : Nat) (r : Rl) (now : Nat) (m : List (List UInt8 × Acc)) (t : Nat) (s : ByteArray) (hs : s.size ≤ 140737488355328) (w : World) (h : Qb w g b n r now m) (hm : mayE t s.data.toList 0 ≠ 0) :
    Calls Try.prog 13 #[.pointer (some ⟨g, 0, none⟩), .int .u64 (t : Int), .string s] w fun e w' => e = .returned (.tuple #[.int .i64 0, .int .i64 0, .int .i64 (mayE t s.data.toList 0)]) ∧ w = w' := by
  have HM := Lib.hid (may_at g r now b t s 0 hs w h.bk)
  have hE : (mayE t s.data.toList 0 == 0) = false := by simpa using hm
  generalize mayE t s.data.toList 0 = E at HM hE ⊢
  clear h hm
  go_enter Try.func13, Try.ntmps13
  go_wp2_with (go_at_call 22; refine HM.out.mono ?_; rintro e w' ⟨rfl, rfl⟩)
  exact bodyPost_ret (v := .tuple #[.int .i64 0, .int .i64 0, .int .i64 E]) (by simp [results, Try.results13, go_sem]) rfl ⟨rfl, rfl⟩
set_option maxHeartbeats 1000000 in
set_option maxRecDepth 100000 in
theorem left_ok (g b n : Nat) (r : Rl) (now : Nat) (m : List (List UInt8 × Acc)) (hr : RlOk r) (t : Nat) (s : ByteArray) (hs : s.size ≤ 140737488355328) (ht : max now t ≤ 9223372036854775808) (w : World) (h : Qb w g b n r now m) (hm : mayE t s.data.toList 0 = 0) :
    Calls Try.prog 13 #[.pointer (some ⟨g, 0, none⟩), .int .u64 (t : Int), .string s] w fun e w' => e = .returned (.tuple #[.int .i64 (leftA r.C (used0 r.P (mget accZ m s.data.toList) (max now t))), .int .i64 (leftA r.B (used1 r.P (mget accZ m s.data.toList) (max now t))), .int .i64 0]) ∧ Below w.heap.size w w' := by
  have HM := Lib.hid (may_at g r now b t s 0 hs w h.bk)
  rw [hm] at HM
  have hd : Qb w.drew g b n r now m := h.below (Below.refl w.heap.size w).drew
  have hlk := look_any hd.mp (s := s) (by unfold maxLen; omega)
  have hlk2 := fun o => look_any (World.mapv.kept (row := none) hd.mp (World.grownBy_alloc w.drew o none) (by simp)) (s := s) (by unfold maxLen; omega)
  have hA := mget_ok hd.mp accZ_ok s.data.toList
  generalize mget accZ m s.data.toList = a at hlk hlk2 hA ⊢
  have HU := Lib.hid (fun W (hW : BkC W g r now b) => used_any g r now b a (max now t) hr hA ht W hW)
  have l0 := used0_le hA hr.P ht
  have l1 := used1_le hA hr.P ht
  generalize used0 r.P a (max now t) = x0 at HU l0 ⊢
  generalize used1 r.P a (max now t) = x1 at HU l1 ⊢
  have HE := Lib.hid (fun W => effective_any now t W)
  generalize max now t = tt at HU HE
  obtain ⟨c0, c1, c2, c3, c4⟩ := h.bk.cells
  have HB := Lib.hid hd.bk
  have HBA := Lib.hid (fun o : Obj => (show BkC (w.alloc o).drew g r now b from Blk.drewN (Blk.alloc h.bk o) 1))
  have hlk3 : ∀ o : Obj, Sem.run Try.prog (Instr.lookup 59 (.map (some b)) (.string s) false) (w.alloc o).drew = .ok (accV a) (w.alloc o).drew := hlk2
  clear hlk2
  have hg := h.bk.lt
  have hC := hr.C
  have hB := hr.B
  clear h hm hd hr ht hA hs
  go_enter Try.func13, Try.ntmps13
  go_wp2_with (go_at_call 22; refine HM.out.mono ?_; rintro e w' ⟨rfl, rfl⟩)
  clear HM
  have hgne : g ≠ w.heap.size := by omega
  have hgne2 : w.heap.size ≠ g := by omega
  go_cut [10] (fun s10 wx => ∃ z, s10 = .pointer (some ⟨z, 0, none⟩) ∧ Blk wx z 69 #[.int .i64 (x0 : Int), .int .i64 (x1 : Int)] ∧ BkC wx g r now b ∧ Below w.heap.size w wx)
  case first =>
    go_region_held3 (fun w' => w'.cell? ⟨g, 0, none⟩ = some (.int .u64 (r.P : Int)) ∧ w'.cell? ⟨g, 1, none⟩ = some (.int .i64 (r.C : Int)) ∧ w'.cell? ⟨g, 2, none⟩ = some (.int .i64 (r.B : Int)) ∧ w'.cell? ⟨g, 3, none⟩ = some (.int .u64 (now : Int)) ∧ w'.cell? ⟨g, 4, none⟩ = some (.map (some b))) (go_keep) (first
      | (go_at_call 23; refine (HE.out _).mono ?_; rintro e w1 ⟨rfl, rfl⟩)
      | (go_at_call 30; refine (HU.out w.drew HB.out).mono ?_; rintro e w1 ⟨rfl, b1⟩; obtain ⟨k0, k1, k2, k3, k4⟩ := BkC.cells (Blk.below HB.out b1 hg))
      | (go_at_call 30; refine (HU.out _ (HBA.out _)).mono ?_; rintro e w1 ⟨rfl, b1⟩; obtain ⟨k0, k1, k2, k3, k4⟩ := BkC.cells (Blk.below (HBA.out _) b1 (Nat.lt_of_lt_of_le hg (by simp))); have HZ : Blk w1 w.heap.size 69 #[.int .i64 0, .int .i64 0] := Blk.below (Blk.drewN (Blk.new w _ _) 1) b1 (by simp); have z0 := HZ.cell 0; have z1 := HZ.cell 1; have hz := HZ.frozen))
    all_goals
      go_wp2_with fail
      go_meet
      first
        | exact ⟨w.heap.size, rfl, by simpa using (HZ.set_ 0 (.int .i64 (x0 : Int))).set_ 1 (.int .i64 (x1 : Int)), Blk.far (Blk.far (Blk.below (HBA.out _) b1 (Nat.lt_of_lt_of_le hg (by simp))) (by simpa using hgne) _) (by simpa using hgne) _,
            Below.setCell (Below.setCell (Below.trans ((Below.refl w.heap.size w).alloc (Nat.le_refl _) _).drew (b1.mono (by simp))) (by simp) _) (by simp) _⟩
        | exact ⟨w1.heap.size, rfl, Blk.new _ _ _, Blk.alloc (Blk.below HB.out b1 hg) _, (Below.trans (Below.refl w.heap.size w).drew b1).alloc b1.size _⟩
  case rest =>
    obtain ⟨z, rfl, hz, hk, hb⟩ := hcut
    obtain ⟨k0, k1, k2, k3, k4⟩ := BkC.cells hk
    have z0 := hz.cell 0
    have z1 := hz.cell 1
    have q0 : IntKind.i64.wrap ((r.C : Int) - (x0 : Int)) = (r.C : Int) - (x0 : Int) := IntWalk.i64_in _ (by omega)
    have q1 : IntKind.i64.wrap ((r.B : Int) - (x1 : Int)) = (r.B : Int) - (x1 : Int) := IntWalk.i64_in _ (by omega)
    clear c0 c1 c2 c3 c4 HB HBA HU HE hlk hlk3
    go_wp2_with fail
    go_quiet (fail)
    go_wp2_with fail
    exact bodyPost_ret (v := .tuple #[.int .i64 (max 0 ((r.C : Int) - (x0 : Int))), .int .i64 (max 0 ((r.B : Int) - (x1 : Int))), .int .i64 0]) (by simp [results, Try.results13, go_sem]) rfl ⟨rfl, below_drewN hb _⟩
end Go.Proofs.Ytnofpbhpnhbbpaa
