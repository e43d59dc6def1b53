/- Stamps in memory; the small calls. -/
import Derived.Test.YtckdfnlleaifcaaStmP
import Derived.Test.YtckdfnlleaifcaaMapI
import Derived.Test.YtckdfnlleaifcaaMid
import Derived.Deep.LoopGhost
import Derived.Deep.QuietTactic
import Derived.BigQuiet
import Derived.StillTailTactics
import Derived.Test.YtckdfnlleaifcaaProg
import Derived.Lib.Hide
namespace Go.Proofs.Ytckdfnlleaifcaa
set_option linter.unusedVariables false
open Go.RowKit Go.Maps

theorem ret_int {k : IntKind} {a b : Int} (h : a = b) : Ending.returned (.int k a) = .returned (.int k b) := by rw [h]
theorem ret_bool {a b : Bool} (h : a = b) : Ending.returned (.bool a) = .returned (.bool b) := by rw [h]
def ptrV : Option Nat → Value
  | none => .pointer none
  | some k => .pointer (some ⟨k, 0, none⟩)
theorem ptrV_inj : ∀ x y, ptrV x = ptrV y → x = y
  | none, none, _ => rfl
  | none, some _, h => by cases h
  | some _, none, h => by cases h
  | some a, some b, h => by
    unfold ptrV at h
    injection h with h
    injection h with h
    injection h with h _ _
    rw [h]
abbrev MapS (w : World) (b n : Nat) (m : List (Nat × Option Nat)) : Prop := World.mapv ptrV .i64 w Try.prog 3 (fun _ => True) b n m
theorem MapS.turn {w w' : World} {b n : Nat} {m : List (Nat × Option Nat)} (h : MapS w b n m) (he : w'.heap[b]? = w.heap[b]?) : MapS w' b n m := by
  obtain ⟨⟨es, clock, hb, Ft, hs, hD⟩, q2⟩ := h
  exact ⟨⟨es, clock, he.trans hb, Ft, hs, hD⟩, q2⟩
def softCells : List Sft → List Value
  | [] => []
  | x :: l => .int .u64 (x.st : Int) :: .int .u64 (x.tm : Int) :: softCells l
theorem softCells_len : ∀ l : List Sft, (softCells l).length = l.length * 2
  | [] => rfl
  | x :: l => by simp only [softCells, List.length_cons, softCells_len l]; omega
theorem softCells_get : ∀ {l : List Sft} {i : Nat} {x : Sft}, l[i]? = some x → (softCells l)[i * 2]? = some (.int .u64 (x.st : Int)) ∧ (softCells l)[i * 2 + 1]? = some (.int .u64 (x.tm : Int))
  | [], _, _, h => by simp at h
  | y :: l, 0, x, h => by
    simp at h
    subst h
    simp [softCells]
  | y :: l, i + 1, x, h => by
    have := softCells_get (l := l) (i := i) (x := x) (by simpa using h)
    rw [show (i + 1) * 2 = i * 2 + 1 + 1 by omega]
    simp only [softCells, List.getElem?_cons_succ]
    exact this
theorem softCells_one : ∀ (l : List Sft), ∀ u ∈ softCells l, u.oneCell' = true
  | [], u, h => by cases h
  | x :: l, u, h => by
    simp only [softCells, List.mem_cons] at h
    rcases h with rfl | rfl | h
    · rfl
    · rfl
    · exact softCells_one l u h
theorem softCells_app : ∀ (l m : List Sft), softCells (l ++ m) = softCells l ++ softCells m
  | [], m => rfl
  | x :: l, m => by simp only [List.cons_append, softCells, softCells_app l m]
theorem softCells_drop (x : Sft) (l : List Sft) : (softCells (x :: l)).drop 2 = softCells l := rfl
/-- What is known of tag t, in memory: its block and its soft purges; own says of which tag a block is. -/
structure PgAt (w : World) (own : Nat → Option Nat) (t k : Nat) (p : Pg) (v : Value) : Prop where
  blk : Blk w k 80 #[.int .u64 (p.hard : Int), v]
  row : Mid w 2 v p.soft.length (softCells p.soft)
  ownk : own k = some t
  ownv : ∀ z, v.ownBlock = some z → own z = some t ∧ z ≠ k
structure Sy (w : World) (g gr now last b n : Nat) (own : Nat → Option Nat) (m : List (Nat × Option Nat)) (l : List Tg) : Prop where
  bk : Blk w g 60 #[.int .u64 (gr : Int), .int .u64 (now : Int), .int .u64 (last : Int), .map (some b)]
  mp : MapS w b n m
  og : own g = none
  ob : own b = none
  ol : ∀ x t, own x = some t → x < w.heap.size
  keys : m.map (·.1) = l.map (·.tag)
  at_ : ∀ x ∈ l, ∃ k v, mget none m x.tag = some k ∧ PgAt w own x.tag k x.p v
  lok : LOk now last l
  ln : l.length ≤ n ∧ ∀ x ∈ l, x.p.soft.length ≤ n
  gb : gr ≤ 1099511627776
  nb : now ≤ 18446744073709551615
  lb : last ≤ 18446744073709551615
section
variable {w w' : World} {own : Nat → Option Nat} {t k : Nat} {p : Pg} {v : Value} {g gr now last b n : Nat} {m : List (Nat × Option Nat)} {l : List Tg}
theorem PgAt.below (h : PgAt w own t k p v) (hb : Below w.heap.size w w') : PgAt w' own t k p v := ⟨h.blk.below hb h.blk.lt, h.row.below hb, h.ownk, h.ownv⟩
theorem PgAt.only {S : Nat → Prop} (h : PgAt w own t k p v) (ho : Only S w w') (hn : ∀ x, own x = some t → ¬ S x) : PgAt w' own t k p v :=
  ⟨h.blk.only ho (hn k h.ownk), h.row.only ho (fun z hz => hn z (h.ownv z hz).1), h.ownk, h.ownv⟩
theorem Sy.cells (h : Sy w g gr now last b n own m l) : w.cell? ⟨g, 0, none⟩ = some (.int .u64 (gr : Int)) ∧ w.cell? ⟨g, 1, none⟩ = some (.int .u64 (now : Int)) ∧ w.cell? ⟨g, 2, none⟩ = some (.int .u64 (last : Int)) ∧ w.cell? ⟨g, 3, none⟩ = some (.map (some b)) :=
  ⟨Blk.cell h.bk 0, Blk.cell h.bk 1, Blk.cell h.bk 2, Blk.cell h.bk 3⟩
theorem Sy.ne (h : Sy w g gr now last b n own m l) : g ≠ b := by
  rintro rfl
  obtain ⟨es, clock, hb, _⟩ := h.mp.1
  have := h.bk
  unfold Blk at this
  rw [this] at hb
  cases hb
theorem Sy.below (h : Sy w g gr now last b n own m l) (hb : Below w.heap.size w w') : Sy w' g gr now last b n own m l :=
  ⟨h.bk.below hb h.bk.lt, h.mp.kept (row := none) (only_of_below hb none) (by simp), h.og, h.ob, fun x t hx => Nat.lt_of_lt_of_le (h.ol x t hx) hb.size, h.keys,
    fun x hx => by obtain ⟨k, v, h1, h2⟩ := h.at_ x hx; exact ⟨k, v, h1, h2.below hb⟩, h.lok, h.ln, h.gb, h.nb, h.lb⟩
theorem Sy.has (h : Sy w g gr now last b n own m l) (t : Nat) : mhas m t = (getT t l).isSome := by
  rw [Bool.eq_iff_iff, mhas_iff, Option.isSome_iff_exists]
  unfold mkeys
  rw [h.keys]
  constructor
  · intro ht
    obtain ⟨x, hx, rfl⟩ := List.mem_map.1 ht
    exact ⟨x, getT_of h.lok.up hx⟩
  · rintro ⟨x, hx⟩
    obtain ⟨h1, h2⟩ := getT_mem hx
    exact List.mem_map.2 ⟨x, h1, h2⟩
theorem Sy.some_ (h : Sy w g gr now last b n own m l) {x : Tg} (hx : getT t l = some x) : ∃ k v, mget none m t = some k ∧ PgAt w own t k x.p v := by
  obtain ⟨h1, h2⟩ := getT_mem hx
  have := h.at_ x h1
  rw [h2] at this
  exact this
theorem Sy.none__ (h : Sy w g gr now last b n own m l) (hx : getT t l = none) : mget none m t = none := by
  refine mget_none ?_
  rw [h.has, hx]
  rfl
end
theorem wf_i64 {t : Nat} (h : t < 9223372036854775808) : (Lit.int .i64 (t : Int)).wf = true := by
  have h1 : IntKind.i64.min = -9223372036854775808 := by decide
  have h2 : IntKind.i64.max = 9223372036854775807 := by decide
  show (decide (IntKind.i64.min ≤ (t : Int)) && decide ((t : Int) ≤ IntKind.i64.max)) = true
  rw [h1, h2, Bool.and_eq_true, decide_eq_true_eq, decide_eq_true_eq]
  omega
theorem ptr_zero (W : World) : (zeroValue 77).run Try.prog W = .ok (ptrV none) W := by kernel_rfl
theorem look_any {w : World} {b n : Nat} {m : List (Nat × Option Nat)} (h : MapS w b n m) {t : Nat} (ht : t < 65536) :
    Sem.run Try.prog (Instr.lookup 58 (.map (some b)) (.int .i64 (t : Int)) false) w = .ok (ptrV (mget none m t)) w :=
  h.lookup Try.underlying3 Try.underlying58 trivial (ptr_zero w) (wf_i64 (by omega))
set_option maxHeartbeats 1000000 in
theorem effective_any (a b : Nat) (w : World) :
    Calls Try.prog 38 #[.int .u64 (a : Int), .int .u64 (b : Int)] w fun e w' => e = .returned (.int .u64 ((max a b : Nat) : Int)) ∧ w = w' := by
  go_enter Try.func38, Try.ntmps38
  go_wp2
  all_goals (go_ret; exact ⟨ret_int (by omega), rfl⟩)
def addN (a b : Nat) : Nat := if 18446744073709551615 - a ≤ b then 18446744073709551615 else a + b
set_option maxHeartbeats 1000000 in
theorem add_any (a b : Nat) (ha : a ≤ 18446744073709551615) (w : World) :
    Calls Try.prog 60 #[.int .u64 (a : Int), .int .u64 (b : Int)] w fun e w' => e = .returned (.int .u64 (addN a b : Int)) ∧ w = w' := by
  have hw : IntKind.u64.wrap (18446744073709551615 - (a : Int)) = 18446744073709551615 - (a : Int) := IntWalk.u64_in _ (by omega)
  by_cases h : 18446744073709551615 - a ≤ b
  · have HA := Lib.hid (show addN a b = 18446744073709551615 from if_pos h)
    have h1 : (18446744073709551615 : Int) - (a : Int) ≤ (b : Int) := by omega
    clear h
    go_enter Try.func60, Try.ntmps60
    go_wp2
    go_ret
    exact ⟨ret_int (by rw [HA.out]; rfl), rfl⟩
  · have HA := Lib.hid (show addN a b = a + b from if_neg h)
    have h1 : ¬ ((18446744073709551615 : Int) - (a : Int) ≤ (b : Int)) := by omega
    have hw2 : IntKind.u64.wrap ((a : Int) + (b : Int)) = (a : Int) + (b : Int) := IntWalk.u64_in _ (by omega)
    clear h
    go_enter Try.func60, Try.ntmps60
    go_wp2
    go_ret
    exact ⟨ret_int (by rw [HA.out]; omega), rfl⟩
def dueB (d now : Nat) : Bool := decide (d ≠ 18446744073709551615) && decide (d ≤ now)
set_option maxHeartbeats 1000000 in
theorem due_any (d now : Nat) (w : World) :
    Calls Try.prog 59 #[.int .u64 (d : Int), .int .u64 (now : Int)] w fun e w' => e = .returned (.bool (dueB d now)) ∧ w = w' := by
  go_enter Try.func59, Try.ntmps59
  go_wp2
  all_goals
    go_ret
    refine ⟨ret_bool ?_, rfl⟩
    unfold dueB
    rw [Bool.eq_iff_iff]
    simp only [Bool.and_eq_true, decide_eq_true_eq, Bool.false_eq_true, false_iff, bne_iff_ne, ne_eq] at *
    omega
theorem over_is {g now t : Nat} (ht : t ≤ 18446744073709551615) : dueB (addN t g) now = overB g now t := by
  unfold dueB addN overB
  rw [Bool.eq_iff_iff]
  simp only [Bool.and_eq_true, decide_eq_true_eq]
  split <;> omega
set_option maxHeartbeats 1000000 in
set_option maxRecDepth 100000 in
theorem over_any {w : World} {g gr now : Nat} {c2 c3 : Value} (h : Blk w g 60 #[.int .u64 (gr : Int), .int .u64 (now : Int), c2, c3]) (st t : Nat) (ht : t ≤ 18446744073709551615) :
    Calls Try.prog 53 #[.pointer (some ⟨g, 0, none⟩), .agg #[.int .u64 (st : Int), .int .u64 (t : Int)]] w fun e w' => e = .returned (.bool (overB gr now t)) ∧ Below w.heap.size w w' := by
  have HO := Lib.hid (over_is (g := gr) (now := now) ht)
  have HA := Lib.hid (fun W => add_any t gr ht W)
  have HD := Lib.hid (fun W => due_any (addN t gr) now W)
  generalize addN t gr = z at HO HA HD
  have h0 := (h.alloc (.cells #[.int .u64 (st : Int), .int .u64 (t : Int)] 52)).cell 0
  have h1 := (h.alloc (.cells #[.int .u64 (st : Int), .int .u64 (t : Int)] 52)).cell 1
  have hx := (Blk.new w 52 #[.int .u64 (st : Int), .int .u64 (t : Int)]).cell 1
  have hb := Lib.hid ((Below.refl w.heap.size w).alloc (Nat.le_refl _) (.cells #[.int .u64 (st : Int), .int .u64 (t : Int)] 52))
  go_enter Try.func53, Try.ntmps53
  go_wp2
  generalize w.alloc (.cells #[.int .u64 (st : Int), .int .u64 (t : Int)] 52) = W at *
  go_quiet ((first
    | (go_at_call 60; exact Calls.quiet_of_same ((HA.out _).mono fun e w' h => ⟨h.1, h.2.symm⟩))
    | (go_at_call 59; exact Calls.quiet_of_same ((HD.out _).mono fun e w' h => ⟨h.1, h.2.symm⟩))))
  go_wp2_with fail
  go_ret
  exact ⟨ret_bool HO.out, below_drewN hb.out _⟩
theorem map_ne (b : Nat) (w : World) : Sem.run Try.prog (binOp BinOp.eql 58 (.map (some b)) (.map none)) w = .ok (.bool false) w := by
  kernel_rfl
theorem map_eqn (w : World) : Sem.run Try.prog (binOp BinOp.eql 58 (.map none) (.map none)) w = .ok (.bool true) w := by
  kernel_rfl
set_option maxHeartbeats 1000000 in
theorem none_nil (w : World) : Calls Try.prog 36 #[.pointer none] w fun e w' => e = .returned (.bool true) ∧ w = w' := by
  go_enter Try.func36, Try.ntmps36
  go_wp2
  go_ret
  exact ⟨rfl, rfl⟩
set_option maxHeartbeats 1000000 in
set_option maxRecDepth 100000 in
theorem none_blk {w : World} {g b : Nat} {c0 c1 c2 : Value} (h : Blk w g 60 #[c0, c1, c2, .map (some b)]) : Calls Try.prog 36 #[.pointer (some ⟨g, 0, none⟩)] w fun e w' => e = .returned (.bool false) ∧ w = w' := by
  have c3 := h.cell 3
  have hne := map_ne b
  clear h
  go_enter Try.func36, Try.ntmps36
  go_wp2
  go_ret
  exact ⟨rfl, rfl⟩
set_option maxHeartbeats 1000000 in
set_option maxRecDepth 100000 in
theorem none_zero {w : World} {g : Nat} {c0 c1 c2 : Value} (h : Blk w g 60 #[c0, c1, c2, .map none]) : Calls Try.prog 36 #[.pointer (some ⟨g, 0, none⟩)] w fun e w' => e = .returned (.bool true) ∧ w = w' := by
  have c3 := h.cell 3
  have hne := map_eqn
  clear h
  go_enter Try.func36, Try.ntmps36
  go_wp2
  go_ret
  exact ⟨rfl, rfl⟩
def tagB (t : Int) : Bool := decide (0 ≤ t) && decide (t < 65536)
set_option maxHeartbeats 1000000 in
set_option maxRecDepth 100000 in
theorem check_any {w : World} {g b : Nat} {c0 c1 c2 : Value} (h : Blk w g 60 #[c0, c1, c2, .map (some b)]) (t : Int) :
    Calls Try.prog 39 #[.pointer (some ⟨g, 0, none⟩), .int .i64 t] w fun e w' => e = .returned (.int .i64 (if tagB t = true then 0 else 2)) ∧ w = w' := by
  have HN := Lib.hid (none_blk h)
  have HT := Lib.hid (show tagB t = (decide (0 ≤ t) && decide (t < 65536)) from rfl)
  generalize tagB t = T at *
  clear h
  cases T
  · have H2 : Hid (t < 0 ∨ 65536 ≤ t) := by
      unfold Hid
      have := HT.out.symm
      rw [Bool.and_eq_false_iff, decide_eq_false_iff_not, decide_eq_false_iff_not] at this
      omega
    go_enter Try.func39, Try.ntmps39
    go_wp2_with (go_at_call 36; refine HN.out.mono ?_; rintro e w1 ⟨rfl, rfl⟩)
    all_goals first
      | (go_ret; exact ⟨rfl, rfl⟩)
      | (exfalso; have := H2.out; omega)
  · have H2 : Hid (0 ≤ t ∧ t < 65536) := by
      unfold Hid
      have := HT.out.symm
      rw [Bool.and_eq_true, decide_eq_true_eq, decide_eq_true_eq] at this
      exact this
    go_enter Try.func39, Try.ntmps39
    go_wp2_with (go_at_call 36; refine HN.out.mono ?_; rintro e w1 ⟨rfl, rfl⟩)
    all_goals first
      | (go_ret; exact ⟨rfl, rfl⟩)
      | (exfalso; have := H2.out; omega)
end Go.Proofs.Ytckdfnlleaifcaa
