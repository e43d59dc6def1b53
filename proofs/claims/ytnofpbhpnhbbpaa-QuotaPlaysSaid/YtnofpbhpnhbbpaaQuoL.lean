/- The document's book in memory: sums, used, allows, bad. -/
import Derived.Test.YtnofpbhpnhbbpaaQuoK
import Derived.Test.YtnofpbhpnhbbpaaQuoM
import Derived.Deep.DeepCutAuto
namespace Go.Proofs.Ytnofpbhpnhbbpaa
set_option linter.unusedVariables false
open Go.RowKit Go.Maps Go.Sort

instance : Inhabited Alw := ⟨⟨[], 0, 0⟩⟩
def alCells : List Alw → List Value
  | [] => []
  | x :: l => .string ⟨x.c.toArray⟩ :: .int .u64 (x.v : Int) :: .int .i64 (x.k : Int) :: alCells l
theorem alCells_len : ∀ l : List Alw, (alCells l).length = l.length * 3
  | [] => rfl
  | x :: l => by
    simp only [alCells, List.length_cons, alCells_len l]
    omega
theorem alCells_get : ∀ {l : List Alw} {i : Nat} {x : Alw}, l[i]? = some x → (alCells l)[i * 3]? = some (.string ⟨x.c.toArray⟩) ∧ (alCells l)[i * 3 + 1]? = some (.int .u64 (x.v : Int)) ∧ (alCells l)[i * 3 + 2]? = some (.int .i64 (x.k : Int))
  | [], _, _, h => by simp at h
  | y :: l, 0, x, h => by
    simp at h
    subst h
    simp [alCells]
  | y :: l, i + 1, x, h => by
    have := alCells_get (l := l) (i := i) (x := x) (by simpa using h)
    rw [show (i + 1) * 3 = i * 3 + 1 + 1 + 1 by omega]
    simp only [alCells, List.getElem?_cons_succ]
    exact this
theorem alCells_one : ∀ (l : List Alw), ∀ u ∈ alCells l, u.oneCell' = true
  | [], u, h => by cases h
  | x :: l, u, h => by
    simp only [alCells, List.mem_cons] at h
    rcases h with rfl | rfl | rfl | h
    · rfl
    · rfl
    · rfl
    · exact alCells_one l u h
theorem alCells_app : ∀ (l m : List Alw), alCells (l ++ m) = alCells l ++ alCells m
  | [], m => rfl
  | x :: l, m => by simp only [List.cons_append, alCells, alCells_app l m]
/-- The document's book. -/
structure Md (w : World) (B M : Nat) (r : Rl) (now : Nat) (q : Option Addr) (cap : Nat) (L : List Alw) : Prop where
  bk : Blk w M 52 #[.int .u64 (r.P : Int), .int .i64 (r.C : Int), .int .i64 (r.B : Int), .int .u64 (now : Int), .slice q L.length cap]
  row : w.ownsRow B 83 3 (.slice q L.length cap) L.length (alCells L)
  base : B ≤ w.heap.size
  ne : (Value.slice q L.length cap).ownBlock ≠ some M
section
variable {w w' : World} {B M : Nat} {r : Rl} {now : Nat} {q : Option Addr} {cap : Nat} {L : List Alw}
theorem Md.cells (h : Md w B M r now q cap L) : w.cell? ⟨M, 0, none⟩ = some (.int .u64 (r.P : Int)) ∧ w.cell? ⟨M, 1, none⟩ = some (.int .i64 (r.C : Int)) ∧ w.cell? ⟨M, 2, none⟩ = some (.int .i64 (r.B : Int)) ∧ w.cell? ⟨M, 3, none⟩ = some (.int .u64 (now : Int)) ∧ w.cell? ⟨M, 4, none⟩ = some (.slice q L.length cap) :=
  ⟨Blk.cell h.bk 0, Blk.cell h.bk 1, Blk.cell h.bk 2, Blk.cell h.bk 3, Blk.cell h.bk 4⟩
theorem Md.below (h : Md w B M r now q cap L) (hb : Below w.heap.size w w') : Md w' B M r now q cap L :=
  ⟨h.bk.below hb h.bk.lt, ownsRow_below h.row hb, Nat.le_trans h.base hb.size, h.ne⟩
theorem Md.only {S : Nat → Prop} (h : Md w B M r now q cap L) (ho : Only S w w') (h1 : ¬ S M) (h2 : ∀ g, (Value.slice q L.length cap).ownBlock = some g → ¬ S g) : Md w' B M r now q cap L :=
  ⟨h.bk.only ho h1, ownsRow_only h.row ho h2, Nat.le_trans h.base ho.size, h.ne⟩
theorem Md.at (h : Md w B M r now q cap L) {i : Nat} {x : Alw} (hx : L[i]? = some x) : ∃ g, q = some ⟨g, 0, none⟩ ∧ g < w.heap.size ∧ w.cell? ⟨g, i * 3, none⟩ = some (.string ⟨x.c.toArray⟩) ∧ w.cell? ⟨g, i * 3 + 1, none⟩ = some (.int .u64 (x.v : Int)) ∧ w.cell? ⟨g, i * 3 + 2, none⟩ = some (.int .i64 (x.k : Int)) := by
  have hi := (List.getElem?_eq_some_iff.1 hx).1
  obtain ⟨g, cap', he, _, hlt⟩ := h.row.form (by omega)
  injection he with he1 _ _
  subst he1
  obtain ⟨g0, g1, g2⟩ := alCells_get hx
  have hr := h.row
  exact ⟨g, rfl, hlt, (hr.cellAt _ (by omega)).trans g0, (hr.cellAt _ (by omega)).trans g1, (hr.cellAt _ (by omega)).trans g2⟩
end
theorem cnt_take {L : List Alw} {i : Nat} {x : Alw} (h : L[i]? = some x) (c : List UInt8) (v : Nat) : cntL (L.take (i + 1)) c v = cntL (L.take i) c v + (if hitB c v x = true then 1 else 0) ∧ bytL (L.take (i + 1)) c v = bytL (L.take i) c v + (if hitB c v x = true then x.k else 0) := by
  rw [List.take_add_one, h]
  exact ⟨cntL_snoc _ _ _ _, bytL_snoc _ _ _ _⟩
theorem cnt_le (L : List Alw) (c : List UInt8) (v : Nat) : cntL L c v ≤ L.length := List.length_filter_le _ _
theorem sum_le : ∀ (l : List Nat) (b : Nat), (∀ x ∈ l, x ≤ b) → l.sum ≤ l.length * b
  | [], b, _ => by simp
  | x :: l, b, h => by
    have h1 := sum_le l b (fun y hy => h y (List.mem_cons_of_mem _ hy))
    have h2 := h x List.mem_cons_self
    rw [List.sum_cons, List.length_cons, Nat.add_mul]
    omega
theorem byt_le {L : List Alw} {b : Nat} (h : ∀ x ∈ L, x.k ≤ b) (c : List UInt8) (v : Nat) : bytL L c v ≤ L.length * b := by
  unfold bytL
  refine Nat.le_trans (sum_le _ b (fun y hy => ?_)) ?_
  · obtain ⟨x, hx, rfl⟩ := List.mem_map.1 hy
    exact h x (List.mem_filter.1 hx).1
  · rw [List.length_map]
    exact Nat.mul_le_mul_right _ (List.length_filter_le _ _)
set_option maxHeartbeats 2000000 in
set_option maxRecDepth 100000 in
theorem sums_any {w : World} {B M : Nat} {r : Rl} {now : Nat} {q : Option Addr} {cap : Nat} {L : List Alw} (h : Md w B M r now q cap L) (hl : L.length ≤ 100) (hk : ∀ x ∈ L, x.k ≤ 1073741824) (s : ByteArray) (v : Nat) :
    Calls Try.prog 42 #[.pointer (some ⟨M, 0, none⟩), .string s, .int .u64 (v : Int)] w fun e w' => e = .returned (.tuple #[.int .i64 (cntL L s.data.toList v : Int), .int .i64 (bytL L s.data.toList v : Int)]) ∧ Below w.heap.size w w' := by
  have HM := Lib.hid h
  have HKK := Lib.hid hk
  clear h hk
  go_enter Try.func42, Try.ntmps42
  go_wp2_with fail
  go_loopg [8, 9, 10] L.length (fun p s8 s9 s10 wr => ∃ k : Nat, k ≤ L.length ∧ p + k = L.length ∧ s10 = .int .i64 (k : Int) ∧ s8 = .int .i64 (cntL (L.take k) s.data.toList v : Int) ∧ s9 = .int .i64 (bytL (L.take k) s.data.toList v : Int) ∧ Below w.heap.size w wr)
  case atStart => exact ⟨0, Nat.zero_le _, rfl, rfl, rfl, rfl, Below.refl _ _⟩
  case round =>
    obtain ⟨k, hkl, hp, rfl, rfl, rfl, hb⟩ := hrel
    have HP := Lib.hid hp
    have HB := Lib.hid hb
    have hM := HM.out.below hb
    obtain ⟨c0, c1, c2, c3, c4⟩ := hM.cells
    by_cases hlt : k < L.length
    · obtain ⟨x, hx⟩ : ∃ x, L[k]? = some x := ⟨L[k], List.getElem?_eq_getElem hlt⟩
      obtain ⟨g, rfl, hg, d0, d1, d2⟩ := hM.at hx
      obtain ⟨t1, t2⟩ := cnt_take hx s.data.toList v
      have b1 : cntL (L.take k) s.data.toList v ≤ 100 := Nat.le_trans (cnt_le _ _ _) (by rw [List.length_take]; omega)
      have b2 : bytL (L.take k) s.data.toList v ≤ 200000000000 := by
        have := byt_le (L := L.take k) (b := 1073741824) (fun y hy => HKK.out y (List.mem_of_mem_take hy)) s.data.toList v
        rw [List.length_take] at this
        omega
      have b3 := HKK.out x (List.mem_of_getElem? hx)
      obtain ⟨N, hN⟩ : ∃ N, N = cntL (L.take k) s.data.toList v := ⟨_, rfl⟩
      obtain ⟨Y, hY⟩ : ∃ Y, Y = bytL (L.take k) s.data.toList v := ⟨_, rfl⟩
      rw [← hN] at t1 b1 ⊢
      rw [← hY] at t2 b2 ⊢
      have T1 := Lib.hid t1
      have T2 := Lib.hid t2
      by_cases hc : x.c = s.data.toList
      · have e1 : ((⟨x.c.toArray⟩ : ByteArray).toList == s.toList) = true := by rw [mk_toList, ByteArray.toList_eq, hc]; simp
        by_cases hv : x.v = v
        · have e2 : ((x.v : Int) == (v : Int)) = true := by rw [hv]; simp
          have hh : hitB s.data.toList v x = true := hitB_iff.2 ⟨hc, hv⟩
          rw [hh] at T1 T2
          clear hp hb hM hx t1 t2 hN hY hh hc hv
          generalize (⟨x.c.toArray⟩ : ByteArray) = X at *
          go_wp2_with fail
          go_quiet (fail)
          go_wp2_with fail
          go_roundg (gk - 1)
          case measure => have := HP.out; omega
          case rel => exact ⟨k + 1, by omega, by have := HP.out; omega, by go_num, by rw [T1.out]; go_num, by rw [T2.out]; go_num, below_drewN HB.out _⟩
        · have e2 : ((x.v : Int) == (v : Int)) = false := by simp; omega
          have hh : hitB s.data.toList v x = false := by
            cases hq : hitB s.data.toList v x
            · rfl
            · exact absurd (hitB_iff.1 hq).2 hv
          rw [hh] at T1 T2
          clear hp hb hM hx t1 t2 hN hY hh hc hv
          generalize (⟨x.c.toArray⟩ : ByteArray) = X at *
          go_wp2_with fail
          go_roundg (gk - 1)
          case measure => have := HP.out; omega
          case rel => exact ⟨k + 1, by omega, by have := HP.out; omega, by go_num, by rw [T1.out]; rfl, by rw [T2.out]; rfl, HB.out⟩
      · have e1 : ((⟨x.c.toArray⟩ : ByteArray).toList == s.toList) = false := by
          rw [mk_toList, ByteArray.toList_eq, beq_eq_false_iff_ne]; simpa using hc
        have hh : hitB s.data.toList v x = false := by
          cases hq : hitB s.data.toList v x
          · rfl
          · exact absurd (hitB_iff.1 hq).1 hc
        rw [hh] at T1 T2
        clear hp hb hM hx t1 t2 hN hY hh hc
        generalize (⟨x.c.toArray⟩ : ByteArray) = X at *
        go_wp2_with fail
        go_roundg (gk - 1)
        case measure => have := HP.out; omega
        case rel => exact ⟨k + 1, by omega, by have := HP.out; omega, by go_num, by rw [T1.out]; rfl, by rw [T2.out]; rfl, HB.out⟩
    · obtain rfl : k = L.length := by omega
      rw [List.take_length]
      clear hp hb hM
      go_wp2_with fail
      go_ret2
      exact ⟨rfl, HB.out⟩
set_option maxHeartbeats 1000000 in
theorem bad_any (t : Nat) (s : ByteArray) (k : Int) (hs : s.size ≤ 140737488355328) (w : World) :
    Calls Try.prog 32 #[.int .u64 (t : Int), .string s, .int .i64 k] w fun e w' => e = .returned (.int .i64 (mayE t s.data.toList k)) ∧ w = w' := by
  have hl := Lib.hid (show s.data.toList.length = s.size by rw [Array.length_toList]; rfl)
  go_enter Try.func32, Try.ntmps32
  go_wp2_with fail
  all_goals
    go_ret
    refine ⟨ret_int ?_, rfl⟩
    clear hs
    have hl2 := hl.out
    unfold mayE
    rw [hl2]
    clear hl hl2
    repeat (first | rfl | omega | split)
end Go.Proofs.Ytnofpbhpnhbbpaa
