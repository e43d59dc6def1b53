/- Contracts of allows, idle, tidy. -/
import Derived.Test.YtnofpbhpnhbbpaaQuoB
import Derived.Maps.Ext
import Derived.Maps.RangeWalk
import Derived.Laws.IdiomRangeMap
import Derived.Deep.LoopGhost
namespace Go.Proofs.Ytnofpbhpnhbbpaa
set_option linter.unusedVariables false
open Go.RowKit Go.Maps

set_option maxHeartbeats 1000000 in
set_option maxRecDepth 100000 in
theorem allows_any (g : Nat) (r : Rl) (now b : Nat) (a : Acc) (t : Nat) (k : Int) (hr : RlOk r) (ha : AccOk a) (ht : t ≤ 9223372036854775808) (w : World) (h : BkC w g r now b) :
    Calls Try.prog 25 #[.pointer (some ⟨g, 0, none⟩), accV a, .int .u64 (t : Int), .int .i64 k] w fun e w' => e = .returned (.bool (allowsA r a t k)) ∧ Below w.heap.size w w' := by
  have hg := h.lt
  have hC := hr.C
  have hB := hr.B
  have l0 := used0_le ha hr.P ht
  have l1 := used1_le ha hr.P ht
  have HU := Lib.hid (fun (W : World) (hW : BkC W g r now b) => used_any g r now b a t hr ha ht W hW)
  unfold allowsA
  generalize used0 r.P a t = x0 at l0 HU ⊢
  generalize used1 r.P a t = x1 at l1 HU ⊢
  obtain ⟨w0, n0, n1, b0, b1⟩ := a
  clear ha hr
  have hb0 : Below w.heap.size w (w.alloc (.cells #[.int .u64 (w0 : Int), .int .i64 (n0 : Int), .int .i64 (n1 : Int), .int .i64 (b0 : Int), .int .i64 (b1 : Int)] 71)) := (Below.refl _ _).alloc (Nat.le_refl _) _
  have hk0 := Blk.new w 71 #[.int .u64 (w0 : Int), .int .i64 (n0 : Int), .int .i64 (n1 : Int), .int .i64 (b0 : Int), .int .i64 (b1 : Int)]
  have hs0 : (w.alloc (.cells #[.int .u64 (w0 : Int), .int .i64 (n0 : Int), .int .i64 (n1 : Int), .int .i64 (b0 : Int), .int .i64 (b1 : Int)] 71)).heap.size = w.heap.size + 1 := by simp
  unfold accV at HU ⊢
  have hkk := Blk.below h hb0 hg
  obtain ⟨W, hW⟩ : ∃ W, w.alloc (.cells #[.int .u64 (w0 : Int), .int .i64 (n0 : Int), .int .i64 (n1 : Int), .int .i64 (b0 : Int), .int .i64 (b1 : Int)] 71) = W := ⟨_, rfl⟩
  rw [hW] at hb0 hk0 hkk hs0
  have HW := Lib.hid hW
  have HS := Lib.hid hs0
  clear hW hs0
  go_enter Try.func25, Try.ntmps25
  go_wp2_with fail
  rw [HW.out]
  clear HW
  have y0 := hk0.cell 0
  have y1 := hk0.cell 1
  have y2 := hk0.cell 2
  have y3 := hk0.cell 3
  have y4 := hk0.cell 4
  go_wp2_with fail
  refine (HU.out W hkk).mono ?_
  rintro e w1 ⟨rfl, hb1⟩
  clear HU y0 y1 y2 y3 y4 hk0
  have hk1 := Blk.below hkk hb1 hkk.lt
  have hb2 := hb0.trans (hb1.mono hb0.size)
  have hsz : w.heap.size < w1.heap.size := Nat.lt_of_lt_of_le (by have := HS.out; omega) hb1.size
  clear hkk hb1 hb0 HS
  go_wp2_with fail
  have hk2 := Blk.alloc hk1 (.cells #[.int .i64 (x0 : Int), .int .i64 (x1 : Int)] 69)
  have hn := Blk.new w1 69 #[.int .i64 (x0 : Int), .int .i64 (x1 : Int)]
  have hb3 := hb2.alloc (Nat.le_of_lt hsz) (.cells #[.int .i64 (x0 : Int), .int .i64 (x1 : Int)] 69)
  obtain ⟨W1, hW⟩ : ∃ W1, w1.alloc (.cells #[.int .i64 (x0 : Int), .int .i64 (x1 : Int)] 69) = W1 := ⟨_, rfl⟩
  rw [hW] at hk2 hn hb3 ⊢
  generalize w1.heap.size = z at hn hsz ⊢
  clear hW hb2 hk1 w1 W
  have y0 := hn.cell 0
  have y1 := hn.cell 1
  obtain ⟨c0, c1, c2, c3, c4⟩ := BkC.cells hk2
  have q0 : IntKind.i64.wrap ((x0 : Int) + 1) = (x0 : Int) + 1 := IntWalk.i64_in _ (by omega)
  have q1 : IntKind.i64.wrap ((r.B : Int) - (x1 : Int)) = (r.B : Int) - (x1 : Int) := IntWalk.i64_in _ (by omega)
  by_cases hd : x0 + 1 ≤ r.C
  · have hd1 : decide ((x0 : Int) + 1 ≤ (r.C : Int)) = true := by rw [decide_eq_true_eq]; omega
    have HD := Lib.hid (show (decide (x0 + 1 ≤ r.C) && decide (k ≤ (r.B : Int) - (x1 : Int))) = decide (k ≤ (r.B : Int) - (x1 : Int)) by rw [decide_eq_true hd, Bool.true_and])
    clear hd
    go_quiet (fail)
    go_wp2_with fail
    go_ret
    exact ⟨ret_bool HD.out.symm, below_drewN hb3 _⟩
  · have hd1 : decide ((x0 : Int) + 1 ≤ (r.C : Int)) = false := by rw [decide_eq_false_iff_not]; omega
    have HD := Lib.hid (show (decide (x0 + 1 ≤ r.C) && decide (k ≤ (r.B : Int) - (x1 : Int))) = false by rw [decide_eq_false hd, Bool.false_and])
    clear hd
    go_quiet (fail)
    go_wp2_with fail
    go_ret
    exact ⟨ret_bool HD.out.symm, below_drewN hb3 _⟩
set_option maxRecDepth 100000 in
theorem amount_eq (x y : Int) (w : World) : Sem.run Try.prog (Op.equalIn 10000 69 (.agg #[.int .i64 x, .int .i64 y]) (.agg #[.int .i64 0, .int .i64 0])) w = .ok (decide (x = 0) && decide (y = 0)) w := by
  have hu : Try.prog.underlying 69 = some (.array 2 3) := by kernel_rfl
  have hi : ∃ i, Try.prog.info? 3 = some i := ⟨_, rfl⟩
  obtain ⟨i, hi⟩ := hi
  have hc : Try.prog.cellsOf 3 = 1 := by kernel_rfl
  have hp : ∀ (xs : Array Value) (k : Nat) (v : Value), xs[k]? = some v → Sem.run Try.prog (Go.part 3 xs k) w = .ok v w := by
    intro xs k v hv
    simp [Go.part, go_sem, hv]
  rw [run_equalIn_array w 9999 _ _ hu hi, hc]
  simp only [List.range, List.range.loop, Op.eqItems, Sem.run_bind]
  rw [hp _ _ (.int .i64 x) (by rfl), Result.andThen_ok, hp _ _ (.int .i64 0) (by rfl), Result.andThen_ok]
  rw [run_equalIn_int w 9998 _ _ _ _ _ (show Try.prog.underlying 3 = some (.int .i64) by kernel_rfl), Result.andThen_ok]
  cases hx : (x == 0)
  · simp at hx
    simp [hx]
  · simp at hx
    subst hx
    simp only [Bool.not_true, Bool.false_eq_true, if_false, Sem.run_bind]
    rw [hp _ _ (.int .i64 y) (by rfl), Result.andThen_ok, hp _ _ (.int .i64 0) (by rfl), Result.andThen_ok]
    rw [run_equalIn_int w 9998 _ _ _ _ _ (show Try.prog.underlying 3 = some (.int .i64) by kernel_rfl), Result.andThen_ok]
    cases hy : (y == 0)
    · simp at hy
      simp [hy]
    · simp at hy
      subst hy
      simp

set_option maxHeartbeats 1000000 in
set_option maxRecDepth 100000 in
theorem idle_any (g : Nat) (r : Rl) (now b : Nat) (a : Acc) (hr : RlOk r) (ha : AccOk a) (ht : now ≤ 9223372036854775808) (w : World) (h : BkC w g r now b) :
    Calls Try.prog 37 #[.pointer (some ⟨g, 0, none⟩), accV a] w fun e w' => e = .returned (.bool (idleA r.P now a)) ∧ Below w.heap.size w w' := by
  have hg := h.lt
  have hP := hr.P
  have hP2 := hr.P2
  have hPn : r.P ≠ 0 := by omega
  have hq : now / r.P ≤ 9223372036854775808 := Nat.le_trans (Nat.div_le_self _ _) ht
  have AE := amount_eq
  have HA := Lib.hid (at_any a (now / r.P) ha hq)
  have e1 : ((now / r.P : Nat) : Int) = (now : Int) / (r.P : Int) := by simp
  rw [e1] at HA
  have hwq : IntKind.u64.wrap ((now : Int) / (r.P : Int)) = (now : Int) / (r.P : Int) := by rw [← e1]; generalize now / r.P = q at hq ⊢; exact IntWalk.u64_in _ (by omega)
  unfold idleA
  generalize accAt a (now / r.P) = A at HA ⊢
  obtain ⟨w0, n0, n1, b0, b1⟩ := a
  obtain ⟨v0, m0, m1, d0, d1⟩ := A
  unfold accV at HA ⊢
  dsimp only
  have hb0 : Below w.heap.size w (w.alloc (.cells #[.int .u64 (w0 : Int), .int .i64 (n0 : Int), .int .i64 (n1 : Int), .int .i64 (b0 : Int), .int .i64 (b1 : Int)] 71)) := (Below.refl _ _).alloc (Nat.le_refl _) _
  have hk0 := Blk.new w 71 #[.int .u64 (w0 : Int), .int .i64 (n0 : Int), .int .i64 (n1 : Int), .int .i64 (b0 : Int), .int .i64 (b1 : Int)]
  have hkk := Blk.below h hb0 hg
  obtain ⟨W, hW⟩ : ∃ W, w.alloc (.cells #[.int .u64 (w0 : Int), .int .i64 (n0 : Int), .int .i64 (n1 : Int), .int .i64 (b0 : Int), .int .i64 (b1 : Int)] 71) = W := ⟨_, rfl⟩
  rw [hW] at hb0 hk0 hkk
  have HW := Lib.hid hW
  clear hW e1 hq ha hr h
  go_enter Try.func37, Try.ntmps37
  go_wp2_with fail
  rw [HW.out]
  clear HW
  have y0 := hk0.cell 0
  have y1 := hk0.cell 1
  have y2 := hk0.cell 2
  have y3 := hk0.cell 3
  have y4 := hk0.cell 4
  obtain ⟨c0, c1, c2, c3, c4⟩ := BkC.cells hkk
  go_still_tail 11, (by kernel_rfl)
  change wpList _ _ _ _ _ W.drew
  have hb1 : Below w.heap.size w W.drew := below_drewN hb0 1
  have hj0 := hk0.drewN 1
  change Blk W.drew _ _ _ at hj0
  obtain ⟨W1, hW1⟩ : ∃ W1, W.drew = W1 := ⟨_, rfl⟩
  rw [hW1] at hb1 hj0 ⊢
  clear y0 y1 y2 y3 y4 hb0 hk0 hkk c0 c1 c2 c3 c4 hW1 W hwq
  go_wp2_with fail
  refine (HA.out _).mono ?_
  rintro e w1 ⟨rfl, hb2⟩
  clear HA
  have hq0 := hj0.below hb2 hj0.lt
  have hb3 := hb1.trans (hb2.mono hb1.size)
  have y0 := hq0.cell 0
  have y1 := hq0.cell 1
  have y2 := hq0.cell 2
  have y3 := hq0.cell 3
  have y4 := hq0.cell 4
  have hf2 := hq0.frozen
  clear hj0 hb1 hb2
  go_wp2_with fail
  all_goals
    go_ret
    refine ⟨ret_bool ?_, ?_⟩
    · clear y0 y1 y2 y3 y4 hf2 AE hq0 hb3
      by_cases p0 : m0 = 0 <;> by_cases p1 : m1 = 0 <;> simp_all
    · repeat (first | exact hb3 | refine Below.setCell ?_ (by simp) _)

def cellN : Value → Nat
  | .int _ n => n.toNat
  | _ => 0
def accOfV : Value → Acc
  | .agg cs => ⟨cellN (cs.getD 0 undef), cellN (cs.getD 1 undef), cellN (cs.getD 2 undef), cellN (cs.getD 3 undef), cellN (cs.getD 4 undef)⟩
  | _ => accZ
theorem accOfV_val (a : Acc) : accOfV (accV a) = a := by
  obtain ⟨w, n0, n1, b0, b1⟩ := a
  rfl
def accPd (q : Acc → Bool) (_ : Lit) : DataW Value → Bool
  | .held v => q (accOfV v)
  | _ => false
abbrev MapA (w : World) (b n : Nat) (m : List (List UInt8 × Acc)) : Prop := World.mapv accV w Try.prog 9 AccOk b n m
theorem lawK : Keyed Try.prog 9 := string_keyed Try.underlying9

set_option maxHeartbeats 2000000 in
set_option maxRecDepth 100000 in
/-- maps.DeleteFunc with what tidy hands it. -/
theorem del_any (q : Acc → Bool) (cb : Array Value) (b n : Nat) (m : List (List UInt8 × Acc)) (w : World) (hm : MapA w b n m)
    (hdel : ∀ (W : World) (key : Value) (a : Acc), w.grownBy W (some b) → AccOk a → Calls Try.prog 36 (#[key, accV a] ++ cb) W fun e w' => e = .returned (.bool (q a)) ∧ W.grownBy w' none) :
    Calls Try.prog 35 #[.map (some b), .func (.func 36) #[] cb] w fun e w' => e = .returned (.tuple #[]) ∧ MapA w' b n (m.filter fun p => !q p.2) ∧ w.grownBy w' (some b) := by
  obtain ⟨hown, hok⟩ := hm
  have hgoal : Calls Try.prog 35 #[.map (some b), .func (.func 36) #[] cb] w fun e w' => e = .returned (.tuple #[]) ∧ w'.ownsMap Try.prog 9 (Rv accV AccOk) b n (Lib.deleteFuncD (accPd q) (liftM accV m)) ∧ w.grownBy w' (some b) := by
    clear hok
    have eg : ∀ args w, (callFunc 36 args).run Try.prog w = .ok (.enter 36 args) w := enters_of Try.func36 (by kernel_rfl) rfl
    have K := lawK
    generalize liftM accV m = D at hown ⊢
    obtain ⟨es0, rfl, hap, hkeys⟩ := hown.entries K
    have HD : Aside _ := hdel
    clear hdel
    go_enter Try.func35, Try.ntmps35
    go_wp2_with (first
      | (at_range; refine wpList_range_own _ rfl _ 59 rfl 9 71 K Try.underlying59 (Rv accV AccOk) b n _ rfl hown ?_; intro w0 hrg0 hg0 hs0)
      | go_in)
    go_frame
    go_loopw [8] (fun _ wr => ∃ (left : Lit → Bool) (cnt : Nat), wr.ranges Try.prog 9 (Rv accV AccOk) b w.heap.size n (Fk (accPd q) es0 left) left cnt ∧ w.grownBy wr (some b))
      (fun _ wr => wr.rangeLeft b w.heap.size)
    case atStart => exact ⟨_, _, by rw [Fk_start hkeys]; exact hrg0, hg0.but _⟩
    case round =>
      obtain ⟨left, cnt, hrg, hgw⟩ := hrel
      go_wp2_with (first
        | (at_next; refine wpList_next_ranges _ rfl _ rfl 9 K (Rv accV AccOk) id (fun a : Acc => Value.agg #[.int .u64 (a.w : Int), .int .i64 (a.n0 : Int), .int .i64 (a.n1 : Int), .int .i64 (a.b0 : Int), .int .i64 (a.b1 : Int)]) (fun key _ _ => ⟨key, rfl⟩) (fun v _ hv => by obtain ⟨_, c, _, rfl⟩ := Rv_inv accV hv; exact ⟨c, rfl⟩) b w.heap.size n _ _ _ rfl hrg ?_ ?_)
        | go_in)
      · intro _ hl0
        go_wp2
        go_end0
        exact ⟨rfl, by rw [← Fk_end hl0]; exact hrg.owns, hgw⟩
      · intro x c kl yd yp w1 cnt1 hkey hlx hv hat hrg1 hlt hg1 hs1 hen
        obtain ⟨hyz, a, ha, hva⟩ := Rv_inv accV hv
        injection hyz with hyd _
        subst hyd
        have hgw1 := hgw.andThen hg1 (fun j hj => by cases hj; exact Or.inl (Nat.le_refl _))
        have hbl := hrg1.owns.lt
        have hrl := hrg1.lt
        have hpd : accPd q kl (.held (accV c)) = q c := by show q (accOfV (accV c)) = q c; rw [accOfV_val]
        have hac : AccOk c := by
          have e : accV c = accV a := hva
          have e2 : c = a := by rw [← accOfV_val c, e, accOfV_val]
          rw [e2]; exact ha
        have hc := HD.out (w1.alloc (.cells #[.int .u64 (c.w : Int), .int .i64 (c.n0 : Int), .int .i64 (c.n1 : Int), .int .i64 (c.b0 : Int), .int .i64 (c.b1 : Int)] 71)) x c (hgw1.andThen (World.grownBy_alloc _ _ none) (fun j hj => by cases hj)) hac
        unfold accV at hc
        clear hva ha
        have hgw2 := hgw1.andThen (World.grownBy_alloc w1 (.cells #[.int .u64 (c.w : Int), .int .i64 (c.n0 : Int), .int .i64 (c.n1 : Int), .int .i64 (c.b0 : Int), .int .i64 (c.b1 : Int)] 71) none) (fun j hj => by cases hj)
        have hrga := hrg1.alloc (.cells #[.int .u64 (c.w : Int), .int .i64 (c.n0 : Int), .int .i64 (c.n1 : Int), .int .i64 (c.b0 : Int), .int .i64 (c.b1 : Int)] 71)
        cases hp : q c <;> rw [hp] at hc hpd
        · have HC := Lib.hid hc
          have HP := Lib.hid hpd
          clear hc hp hpd
          go_wp2_with fail
          refine HC.out.mono ?_
          rintro e w2 ⟨rfl, hg2⟩
          have hrg2 := hrga.kept hg2 (by simp) (by simp)
          go_wp2_with fail
          go_roundw
          case rel => exact ⟨_, cnt1, by rw [← Fk_stays hap (K.key hkey) hlx HP.out hat]; exact hrg2, hgw2.andThen hg2 (fun j hj => by cases hj)⟩
          case measure => rw [hrg2.left_eq, hrg.left_eq]; exact hlt
        · have HC := Lib.hid hc
          have HP := Lib.hid hpd
          clear hc hp hpd
          go_wp2_with fail
          refine HC.out.mono ?_
          rintro e w2 ⟨rfl, hg2⟩
          have hrg2 := hrga.kept hg2 (by simp) (by simp)
          go_wp2_with (first
            | (at_delete; refine wpList_delete_ranges _ rfl _ _ 59 9 rfl 71 K Try.underlying59 (Rv accV AccOk) b w.heap.size n _ _ _ rfl hrg2 _ _ rfl hkey ?_; intro w3 cnt3 hrg3 hle hturn; go_frame)
            | go_in)
          rw [strike_twice] at hrg3
          go_roundw
          case rel => exact ⟨_, cnt3, by rw [← Fk_struck hap (K.key hkey) hlx HP.out hat]; exact hrg3, (hgw2.andThen hg2 (fun j hj => by cases hj)).andThen hturn.grown (fun j hj => by cases hj; exact Or.inr rfl)⟩
          case measure => rw [hrg3.left_eq, hrg.left_eq]; omega
  refine hgoal.mono ?_
  rintro e w' ⟨rfl, h1, h2⟩
  refine ⟨rfl, ⟨?_, fun p hp => hok p (List.mem_filter.1 hp).1⟩, h2⟩
  rw [liftM_deleteFunc (fun p => q p.2)] at h1
  · exact h1
  · intro p
    show q (accOfV (accV p.2)) = q p.2
    rw [accOfV_val]

/-- A book in memory. -/
structure Qb (w : World) (g b n : Nat) (r : Rl) (now : Nat) (m : List (List UInt8 × Acc)) : Prop where
  bk : BkC w g r now b
  mp : MapA w b n m
theorem Qb.ne {w : World} {g b n : Nat} {r : Rl} {now : Nat} {m : List (List UInt8 × Acc)} (h : Qb w g b n r now m) : g ≠ b := by
  rintro rfl
  obtain ⟨es, clock, hb, _⟩ := h.mp.1
  have := h.bk
  unfold BkC Blk at this
  rw [this] at hb
  cases hb
theorem Qb.apart {w : World} {g b n : Nat} {r : Rl} {now : Nat} {m : List (List UInt8 × Acc)} (h : Qb w g b n r now m) : Apart m := h.mp.apart Try.underlying9
theorem Qb.below {w w' : World} {g b n : Nat} {r : Rl} {now : Nat} {m : List (List UInt8 × Acc)} (h : Qb w g b n r now m) (hb : Below w.heap.size w w') : Qb w' g b n r now m :=
  ⟨Blk.below h.bk hb h.bk.lt, h.mp.kept (row := none) (only_of_below hb none) (by simp)⟩
set_option maxHeartbeats 1000000 in
set_option maxRecDepth 100000 in
theorem tidy_any (g b n : Nat) (r : Rl) (now : Nat) (m : List (List UInt8 × Acc)) (hr : RlOk r) (ht : now ≤ 9223372036854775808) (w : World) (h : Qb w g b n r now m) :
    Calls Try.prog 26 #[.pointer (some ⟨g, 0, none⟩)] w fun e w' => e = .returned (.tuple #[]) ∧ Qb w' g b n r now (tidyM r.P now m) ∧ w.grownBy w' (some b) := by
  have hne := h.ne
  obtain ⟨hbk, hmp⟩ := h
  have hg := hbk.lt
  have hx : (w.alloc (.cells #[.pointer (some ⟨g, 0, none⟩)] 23)).cell? ⟨w.heap.size, 0, none⟩ = some (.pointer (some ⟨g, 0, none⟩)) := by rw [World.cell?_alloc_at _ _ _ _ (by simp)]; rfl
  have hgr := World.grownBy_alloc w (.cells #[.pointer (some ⟨g, 0, none⟩)] 23) (some b)
  have hcon := del_any (fun a => idleA r.P now a) #[.pointer (some ⟨w.heap.size, 0, none⟩)] b n m (w.alloc (.cells #[.pointer (some ⟨g, 0, none⟩)] 23)) (hmp.kept (World.grownBy_alloc w _ none) (by simp)) (by
    intro W key a hgW ha
    have hxW : W.cell? ⟨w.heap.size, 0, none⟩ = some (.pointer (some ⟨g, 0, none⟩)) := hgW.cell hx (fun e => by have e1 : w.heap.size = b := Option.some.inj e; have := hmp.lt; omega)
    have hwW : w.heap.size < W.heap.size := by have := hgW.size; simp at this; omega
    have hgW2 : g < W.heap.size := by omega
    have hbW : BkC W g r now b := Blk.grown (Blk.grown hbk hgr (by simp; omega)) hgW (by simp; omega)
    have HI := Lib.hid (fun (V : World) (hV : BkC V g r now b) => idle_any g r now b a hr ha ht V hV)
    have HB := Lib.hid (fun (o : Obj) => (Blk.alloc hbW o : Blk (W.alloc o) _ _ _))
    clear hgW hbk hmp hx hgr hbW
    obtain ⟨w0, n0, n1, b0, b1⟩ := a
    unfold accV at HI ⊢
    go_enter Try.func36, Try.ntmps36
    go_wp2_with fail
    refine (HI.out _ (HB.out _)).mono ?_
    rintro e w' ⟨rfl, hb⟩
    go_wp2_with fail
    go_ret
    exact ⟨rfl, only_trans (only_alloc (only_refl _ _) _) (only_of_below hb none)⟩)
  have HC := Lib.hid hcon
  obtain ⟨c0, c1, c2, c3, c4⟩ := hbk.cells
  have HBK := Lib.hid hbk
  clear hcon hbk hmp hx hgr
  go_enter Try.func26, Try.ntmps26
  go_wp2_with fail
  refine HC.out.mono ?_
  rintro e w' ⟨rfl, h1, h2⟩
  go_wp2_with fail
  go_end0
  refine ⟨rfl, ⟨?_, h1⟩, only_trans (only_alloc (only_refl _ _) _) h2⟩
  exact Blk.grown (Blk.alloc HBK.out _) h2 (by simp; omega)
end Go.Proofs.Ytnofpbhpnhbbpaa
