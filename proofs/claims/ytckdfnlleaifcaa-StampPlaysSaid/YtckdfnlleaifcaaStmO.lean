/- StampHolds, the parts: calls that came in, few, calls, the document's small tests; Forget in one contract. -/
import Derived.Test.YtckdfnlleaifcaaStmN
namespace Go.Proofs.Ytckdfnlleaifcaa
set_option linter.unusedVariables false
open Go.RowKit Go.Maps Go.Sort

/-! ### calls that came in -/
abbrev SAc := Int × Int × Int
def SActsOf (w : World) (p : Option Addr) (l : List SAc) : Prop :=
  ∀ i x, l[i]? = some x → ∃ blk off, p = some ⟨blk, off, none⟩ ∧ blk < w.heap.size ∧ w.cell? ⟨blk, off + i * 3, none⟩ = some (.int .i64 x.1) ∧ w.cell? ⟨blk, off + i * 3 + 1, none⟩ = some (.int .i64 x.2.1) ∧ w.cell? ⟨blk, off + i * 3 + 2, none⟩ = some (.int .u64 x.2.2)
theorem SActsOf.below {w w' : World} {p : Option Addr} {l : List SAc} (h : SActsOf w p l) (hb : Below w.heap.size w w') : SActsOf w' p l := by
  intro i x hx
  obtain ⟨blk, off, hp, hlt, h0, h1, h2⟩ := h i x hx
  exact ⟨blk, off, hp, Nat.lt_of_lt_of_le hlt hb.size, (hb.cell (p := ⟨blk, _, none⟩) hlt).trans h0, (hb.cell (p := ⟨blk, _, none⟩) hlt).trans h1, (hb.cell (p := ⟨blk, _, none⟩) hlt).trans h2⟩
set_option maxHeartbeats 1000000 in
theorem few_any (q : Option Addr) (cap n : Nat) (hn : n ≤ 140737488355328) (w : World) :
    Calls Try.prog 9 #[.slice q n cap] w fun e w' => e = .returned (.bool (decide (n ≤ 50))) ∧ w = w' := by
  have e1 : decide ((n : Int) ≤ 50) = decide (n ≤ 50) := by
    rw [decide_eq_decide]; omega
  go_enter Try.func9, Try.ntmps9
  go_wp2
  go_ret
  exact ⟨rfl, rfl⟩
set_option maxHeartbeats 1000000 in
theorem rgrace_any (a : Nat) (w : World) :
    Calls Try.prog 8 #[.int .u64 (a : Int)] w fun e w' => e = .returned (.bool (decide (a ≤ 1099511627776))) ∧ w = w' := by
  have e1 : decide ((a : Int) ≤ 1099511627776) = decide (a ≤ 1099511627776) := by
    rw [decide_eq_decide]; omega
  go_enter Try.func8, Try.ntmps8
  go_wp2
  go_ret
  exact ⟨rfl, rfl⟩
set_option maxHeartbeats 1000000 in
theorem rtag_any (t : Int) (w : World) :
    Calls Try.prog 10 #[.int .i64 t] w fun e w' => e = .returned (.bool (tagB t)) ∧ w = w' := by
  unfold tagB
  by_cases h1 : (0 : Int) ≤ t
  · have e1 : decide ((0 : Int) ≤ t) = true := decide_eq_true h1
    rw [e1]
    clear h1
    go_enter Try.func10, Try.ntmps10
    go_wp2
    go_ret
    exact ⟨rfl, rfl⟩
  · have e1 : decide ((0 : Int) ≤ t) = false := decide_eq_false h1
    rw [e1]
    clear h1
    go_enter Try.func10, Try.ntmps10
    go_wp2
    go_ret
    exact ⟨rfl, rfl⟩
set_option maxHeartbeats 1000000 in
set_option maxRecDepth 100000 in
theorem rover_any (t g now : Nat) (ht : t ≤ 18446744073709551615) (w : World) :
    Calls Try.prog 22 #[.int .u64 (t : Int), .int .u64 (g : Int), .int .u64 (now : Int)] w fun e w' => e = .returned (.bool (overB g now t)) ∧ w = w' := by
  have s1 : IntKind.u64.wrap (18446744073709551615 - (t : Int)) = 18446744073709551615 - (t : Int) := IntWalk.u64_in _ (by omega)
  by_cases h1 : g < 18446744073709551615 - t
  · have e1 : decide ((g : Int) < 18446744073709551615 - (t : Int)) = true := decide_eq_true (by omega)
    have s2 : IntKind.u64.wrap ((t : Int) + (g : Int)) = (t : Int) + (g : Int) := IntWalk.u64_in _ (by omega)
    have e2 : decide ((t : Int) + (g : Int) ≤ (now : Int)) = overB g now t := by
      unfold overB
      rw [decide_eq_true h1, Bool.true_and, decide_eq_decide]
      omega
    clear h1 ht
    go_enter Try.func22, Try.ntmps22
    go_wp2
    go_ret
    first | exact ⟨rfl, rfl⟩ | exact ⟨ret_bool e2, rfl⟩
  · have e1 : decide ((g : Int) < 18446744073709551615 - (t : Int)) = false := decide_eq_false (by omega)
    have e2 : Hid (false = overB g now t) := by
      unfold Hid overB
      rw [decide_eq_false h1, Bool.false_and]
    clear h1 ht
    go_enter Try.func22, Try.ntmps22
    go_wp2
    go_ret
    first | exact ⟨rfl, rfl⟩ | exact ⟨ret_bool e2.out, rfl⟩
/-! ### the law's calls -/
def callOk (what t : Int) : Bool := tagB t || !(decide (what = 0) || decide (what = 1))
def callD (what t : Int) (gr now n : Nat) (d : List Tg) : List Tg := if what = 0 then hardD gr now n t.toNat d else if what = 1 then softD gr now n t.toNat d else advD gr now d
def CallP (w : World) (O : Nat → Prop) (g gr A L n : Nat) (d : List Tg) (e : Ending) (w' : World) : Prop :=
  e = .returned (.tuple #[.int .u64 (L : Int), .int .i64 0]) ∧ ∃ O', St w' g gr A L n d O' ∧ Goes w O w' O'
theorem St.grow {w : World} {g gr now last n n' : Nat} {d : List Tg} {O : Nat → Prop} (h : St w g gr now last n d O) (hn : n ≤ n') : St w g gr now last n' d O := by
  obtain ⟨b, own, m, l, h1, h2, h3, h4⟩ := h
  exact ⟨b, own, m, l, ⟨h1.bk, h1.mp.mono hn, h1.og, h1.ob, h1.ol, h1.keys, h1.at_, h1.lok, ⟨Nat.le_trans h1.ln.1 hn, fun x hx => Nat.le_trans (h1.ln.2 x hx) hn⟩, h1.gb, h1.nb, h1.lb⟩, h2, h3, h4⟩
theorem Goes.front {w w1 w2 : World} {O O' : Nat → Prop} (hb : Below w.heap.size w w1) (h : Goes w1 O w2 O') : Goes w O w2 O' :=
  ⟨(Only.of_below hb O).trans h.only (fun z hz => .inl hz), fun x hx => by
    rcases h.new x hx with h1 | h1
    · exact .inl h1
    · exact .inr (Nat.le_trans hb.size h1)⟩
theorem tagB_nat {t : Int} (h : tagB t = true) : ∃ k : Nat, t = (k : Int) ∧ k < 65536 ∧ t.toNat = k := by
  unfold tagB at h
  simp only [Bool.and_eq_true, decide_eq_true_eq] at h
  exact ⟨t.toNat, by omega, by omega, rfl⟩
set_option maxHeartbeats 4000000 in
set_option maxRecDepth 100000 in
theorem calls_ok {w : World} {g gr now last n : Nat} {d : List Tg} {O : Nat → Prop} (h : St w g gr now last n d O) (what t : Int) (hok : callOk what t = true) (hl : last < 18446744073709551615) (a : Nat) (ha : a ≤ 18446744073709551615) (hn : n ≤ 100000) :
    Calls Try.prog 13 #[.pointer (some ⟨g, 0, none⟩), .agg #[.int .i64 what, .int .i64 t, .int .u64 (a : Int)]] w (CallP w O g gr (max now a) (last + 1) (n + 1) (callD what t gr (max now a) (last + 1) d)) := by
  have hb := (Below.refl w.heap.size w).alloc (Nat.le_refl _) (.cells #[.int .i64 what, .int .i64 t, .int .u64 (a : Int)] 34)
  have hx := Blk.new w 34 #[.int .i64 what, .int .i64 t, .int .u64 (a : Int)]
  have c0 := hx.cell 0
  have c1 := hx.cell 1
  have c2 := hx.cell 2
  simp only [List.getElem?_toArray, List.getElem?_cons_zero, List.getElem?_cons_succ] at c0 c1 c2
  have HS := Lib.hid (h.below hb)
  have HB := Lib.hid hb
  clear hb hx h
  by_cases h0 : what = 0
  · subst h0
    have hT : tagB t = true := by simpa [callOk] using hok
    obtain ⟨k, rfl, hk, hk2⟩ := tagB_nat hT
    have HC := Lib.hid (hard_ok HS.out k hk hl a ha hn)
    have HD : Hid (callD 0 (k : Int) gr (max now a) (last + 1) d = hardD gr (max now a) (last + 1) k d) := by unfold Hid callD; rw [if_pos rfl, hk2]
    clear hT hok hk hk2
    rw [HD.out]
    go_enter Try.func13, Try.ntmps13
    go_wp2_with fail
    refine HC.out.mono ?_
    rintro e w1 ⟨rfl, O', s1, o1⟩
    have S1 := Lib.hid s1
    have O1 := Lib.hid o1
    clear s1 o1 HC
    go_wp2_with fail
    go_ret2
    exact ⟨rfl, O', S1.out, O1.out.front HB.out⟩
  · by_cases h1 : what = 1
    · subst h1
      have hT : tagB t = true := by simpa [callOk] using hok
      obtain ⟨k, rfl, hk, hk2⟩ := tagB_nat hT
      have HC := Lib.hid (soft_ok HS.out k hk hl a ha hn)
      have HD : Hid (callD 1 (k : Int) gr (max now a) (last + 1) d = softD gr (max now a) (last + 1) k d) := by unfold Hid callD; rw [if_neg (by decide), if_pos rfl, hk2]
      clear hT hok hk hk2 h0
      rw [HD.out]
      go_enter Try.func13, Try.ntmps13
      go_wp2_with fail
      refine HC.out.mono ?_
      rintro e w1 ⟨rfl, O', s1, o1⟩
      have S1 := Lib.hid s1
      have O1 := Lib.hid o1
      clear s1 o1 HC
      go_wp2_with fail
      go_ret2
      exact ⟨rfl, O', S1.out, O1.out.front HB.out⟩
    · have HC := Lib.hid (other_ok HS.out hl a ha)
      have HD : Hid (callD what t gr (max now a) (last + 1) d = advD gr (max now a) d) := by unfold Hid callD; rw [if_neg h0, if_neg h1]
      have e0 : (what == 0) = false := by simpa using h0
      have e1 : (what == 1) = false := by simpa using h1
      have HL := Lib.hid (show ∀ x, O x → x < (w.alloc (.cells #[.int .i64 what, .int .i64 t, .int .u64 (a : Int)] 34)).heap.size from fun x hx => HS.out.lt hx)
      clear hok h0 h1
      rw [HD.out]
      go_enter Try.func13, Try.ntmps13
      go_wp2_with fail
      refine HC.out.mono ?_
      rintro e w1 ⟨rfl, s1, o1⟩
      have S1 := Lib.hid s1
      have O1 := Lib.hid o1
      clear s1 o1 HC
      go_wp2_with fail
      go_ret2
      exact ⟨rfl, O, St.grow S1.out (Nat.le_succ n), Goes.front HB.out ⟨O1.out, fun x hx => .inl hx⟩⟩
set_option maxHeartbeats 4000000 in
set_option maxRecDepth 100000 in
theorem calls_bad {w : World} {g gr now last n : Nat} {d : List Tg} {O : Nat → Prop} (h : St w g gr now last n d O) (what t : Int) (hok : callOk what t = false) (a : Nat) :
    Calls Try.prog 13 #[.pointer (some ⟨g, 0, none⟩), .agg #[.int .i64 what, .int .i64 t, .int .u64 (a : Int)]] w fun e w' => e = .returned (.tuple #[.int .u64 0, .int .i64 2]) ∧ Below w.heap.size w w' := by
  have hb := (Below.refl w.heap.size w).alloc (Nat.le_refl _) (.cells #[.int .i64 what, .int .i64 t, .int .u64 (a : Int)] 34)
  have hx := Blk.new w 34 #[.int .i64 what, .int .i64 t, .int .u64 (a : Int)]
  have c0 := hx.cell 0
  have c1 := hx.cell 1
  have c2 := hx.cell 2
  simp only [List.getElem?_toArray, List.getElem?_cons_zero, List.getElem?_cons_succ] at c0 c1 c2
  have HS := Lib.hid (h.below hb)
  have HB := Lib.hid hb
  clear hb hx h
  have hT : tagB t = false := by
    unfold callOk at hok
    simp only [Bool.or_eq_false_iff] at hok
    exact hok.1
  have hw : what = 0 ∨ what = 1 := by
    unfold callOk at hok
    simp only [Bool.or_eq_false_iff, Bool.not_eq_false', Bool.or_eq_true, decide_eq_true_eq] at hok
    exact hok.2
  have HC1 := Lib.hid (hard_bad HS.out t hT a)
  have HC2 := Lib.hid (soft_bad HS.out t hT a)
  clear hT hok
  rcases hw with rfl | rfl
  · go_enter Try.func13, Try.ntmps13
    go_wp2_with fail
    refine HC1.out.mono ?_
    rintro e w1 ⟨rfl, rfl⟩
    go_wp2_with fail
    go_ret2
    exact ⟨rfl, HB.out⟩
  · go_enter Try.func13, Try.ntmps13
    go_wp2_with fail
    refine HC2.out.mono ?_
    rintro e w1 ⟨rfl, rfl⟩
    go_wp2_with fail
    go_ret2
    exact ⟨rfl, HB.out⟩
theorem delT_none {t : Nat} {d : List Tg} (hx : getT t d = none) : delT t d = d := by
  unfold delT
  rw [List.filter_eq_self]
  intro x hx2
  have := getT_none hx x hx2
  simpa using this
def FgP (w : World) (O : Nat → Prop) (g gr now last n t : Nat) (c : Int) (d : List Tg) (e : Ending) (w' : World) : Prop :=
  e = .returned (.int .i64 c) ∧ St w' g gr now last n (delT t d) O ∧ Only O w w'
theorem forget_ok {w : World} {g gr now last n : Nat} {d : List Tg} {O : Nat → Prop} (h : St w g gr now last n d O) (t : Nat) (ht : t < 65536) :
    Calls Try.prog 17 #[.pointer (some ⟨g, 0, none⟩), .int .i64 (t : Int)] w (FgP w O g gr now last n t (fgE t d) d) := by
  unfold fgE
  cases hx : getT t d with
  | none =>
    refine (forget_none h t ht hx).mono ?_
    rintro e w' ⟨h4, rfl⟩
    exact ⟨h4, by rw [delT_none hx]; exact h, Only.refl _ _⟩
  | some x =>
    refine (forget_some h t ht hx).mono ?_
    rintro e w' ⟨h4, h5, h6⟩
    exact ⟨h4, h5, h6⟩
end Go.Proofs.Ytckdfnlleaifcaa
