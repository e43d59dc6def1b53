/- Restore: which lists are right, plain; the closure that marks what has been seen. -/
import Derived.Test.YtckdfnlleaifcaaStnD
namespace Go.Proofs.Ytckdfnlleaifcaa
set_option linter.unusedVariables false
open Go.RowKit Go.Maps Go.Sort

/-- What is known of a tag, as it came in: any number. -/
structure Rw where
  tag : Int
  p : Pg
  v : Value
abbrev Mk := List (Nat × Bool)
def fineM (m : Mk) (last n : Nat) : Bool := !(mget false m n) && decide (n ≤ last)
/-- One soft purge is right behind another. -/
def sofB (gr now last b : Nat) (bt : Option Nat) (y : Sft) (m : Mk) : Bool := decide (b < y.st) && bt.all (fun t => decide (t < y.tm)) && decide (y.tm ≤ now) && !overB gr now y.tm && fineM m last y.st
def okS (gr now last : Nat) : Nat → Option Nat → List Sft → Mk → Option Mk
  | _, _, [], m => some m
  | b, bt, y :: r, m => if sofB gr now last b bt y m = true then okS gr now last y.st (some y.tm) r (mput m y.st true) else none
def entB (prev : Option Int) (x : Rw) : Bool := tagB x.tag && prev.all (fun t => decide (t < x.tag)) && !(decide (x.p.hard = 0) && decide (x.p.soft = []))
def okE (gr now last : Nat) (prev : Option Int) (x : Rw) (m : Mk) : Option Mk :=
  if entB prev x = true then
    if x.p.hard = 0 then okS gr now last 0 none x.p.soft m
    else if fineM m last x.p.hard = true then okS gr now last x.p.hard none x.p.soft (mput m x.p.hard true) else none
  else none
def okL (gr now last : Nat) : Option Int → List Rw → Mk → Option Mk
  | _, [], m => some m
  | prev, x :: r, m => (okE gr now last prev x m).bind (okL gr now last (some x.tag) r)
def tgR (R : List Rw) : List Tg := R.map fun x => ⟨x.tag.toNat, x.p⟩
/-! ### what is right is in order -/
structure SOk (gr now last b : Nat) (bt : Option Nat) (l : List Sft) : Prop where
  up : SUp l
  st : ∀ x ∈ l, b < x.st ∧ x.st ≤ last
  tm : ∀ x ∈ l, x.tm ≤ now ∧ overB gr now x.tm = false ∧ ∀ t, bt = some t → t < x.tm
theorem okS_ok {gr now last : Nat} : ∀ {l : List Sft} {b : Nat} {bt : Option Nat} {m m' : Mk}, okS gr now last b bt l m = some m' → SOk gr now last b bt l
  | [], b, bt, m, m', _ => ⟨List.Pairwise.nil, (fun x hx => by cases hx), (fun x hx => by cases hx)⟩
  | y :: r, b, bt, m, m', h => by
    unfold okS at h
    split at h
    · rename_i hs
      have ih := okS_ok h
      unfold sofB fineM at hs
      simp only [Bool.and_eq_true, decide_eq_true_eq, Bool.not_eq_true'] at hs
      obtain ⟨⟨⟨⟨h1, h2⟩, h3⟩, h4⟩, _, h5⟩ := hs
      have hbt : ∀ t, bt = some t → t < y.tm := fun t ht => by
        subst ht
        simpa using h2
      refine ⟨List.pairwise_cons.2 ⟨fun z hz => (ih.tm z hz).2.2 _ rfl, ih.up⟩, fun x hx => ?_, fun x hx => ?_⟩
      · rcases List.mem_cons.1 hx with rfl | hx
        · exact ⟨h1, h5⟩
        · have := ih.st x hx
          exact ⟨by omega, this.2⟩
      · rcases List.mem_cons.1 hx with rfl | hx
        · exact ⟨h3, h4, hbt⟩
        · have := ih.tm x hx
          exact ⟨this.1, this.2.1, fun t ht => by have := hbt t ht; have := (ih.tm x hx).2.2 _ rfl; omega⟩
    · cases h
structure EOk (gr now last : Nat) (prev : Option Int) (x : Rw) : Prop where
  tag : tagB x.tag = true
  pr : ∀ t, prev = some t → t < x.tag
  ne : PNe x.p
  ok : POk now last x.p
  stay : ∀ y ∈ x.p.soft, overB gr now y.tm = false
theorem okE_ok {gr now last : Nat} {prev : Option Int} {x : Rw} {m m' : Mk} (h : okE gr now last prev x m = some m') : EOk gr now last prev x := by
  unfold okE at h
  split at h
  · rename_i he
    unfold entB at he
    simp only [Bool.and_eq_true, Bool.not_eq_true', Bool.and_eq_false_iff, decide_eq_false_iff_not] at he
    obtain ⟨⟨h1, h2⟩, h3⟩ := he
    have hp : ∀ t, prev = some t → t < x.tag := fun t ht => by
      subst ht
      simpa using h2
    have hn : PNe x.p := h3
    split at h
    · rename_i h0
      have hs := okS_ok h
      exact ⟨h1, hp, hn, ⟨hs.up, by omega, fun y hy => by have := hs.st y hy; omega, fun y hy => (hs.tm y hy).1⟩, fun y hy => (hs.tm y hy).2.1⟩
    · rename_i h0
      split at h
      · rename_i hf
        have hs := okS_ok h
        unfold fineM at hf
        simp only [Bool.and_eq_true, decide_eq_true_eq] at hf
        exact ⟨h1, hp, hn, ⟨hs.up, hf.2, fun y hy => by have := hs.st y hy; omega, fun y hy => (hs.tm y hy).1⟩, fun y hy => (hs.tm y hy).2.1⟩
      · cases h
  · cases h
theorem okL_ok {gr now last : Nat} : ∀ {R : List Rw} {prev : Option Int} {m m' : Mk}, okL gr now last prev R m = some m' → (∀ x ∈ R, EOk gr now last none x ∧ ∀ t, prev = some t → t < x.tag) ∧ R.Pairwise (fun x y => x.tag < y.tag)
  | [], _, _, _, _ => ⟨(fun x hx => by cases hx), List.Pairwise.nil⟩
  | x :: r, prev, m, m', h => by
    unfold okL at h
    obtain ⟨m1, h1, h2⟩ := Option.bind_eq_some_iff.1 h
    have he := okE_ok h1
    obtain ⟨i1, i2⟩ := okL_ok h2
    refine ⟨fun z hz => ?_, List.pairwise_cons.2 ⟨fun z hz => (i1 z hz).2 _ rfl, i2⟩⟩
    rcases List.mem_cons.1 hz with rfl | hz
    · exact ⟨⟨he.tag, (fun t ht => by cases ht), he.ne, he.ok, he.stay⟩, he.pr⟩
    · have := i1 z hz
      exact ⟨this.1, fun t ht => by have := he.pr t ht; have := (i1 z hz).2 _ rfl; omega⟩
theorem normP_stay {gr now : Nat} {p : Pg} (h : ∀ y ∈ p.soft, overB gr now y.tm = false) : normP gr now p = p := by
  unfold normP
  rw [hardK_none _ h, softK_none h]
/-! ### the closure -/
abbrev MapB (w : World) (b n : Nat) (m : Mk) : Prop := World.mapv Value.bool .u64 w Try.prog 22 (fun _ => True) b n m
theorem bool_zero (W : World) : (zeroValue 4).run Try.prog W = .ok (.bool false) W := by kernel_rfl
theorem wf_u64 {t : Nat} (h : t ≤ 18446744073709551615) : (Lit.int .u64 (t : Int)).wf = true := by
  have h1 : IntKind.u64.min = 0 := by decide
  have h2 : IntKind.u64.max = 18446744073709551615 := by decide
  show (decide (IntKind.u64.min ≤ (t : Int)) && decide ((t : Int) ≤ IntKind.u64.max)) = true
  rw [h1, h2, Bool.and_eq_true, decide_eq_true_eq, decide_eq_true_eq]
  omega
def FineP (w : World) (mb n last x : Nat) (m : Mk) (e : Ending) (w' : World) : Prop :=
  e = .returned (.bool (fineM m last x)) ∧ MapB w' mb (n + 1) (mput m x true) ∧ w.grownBy w' (some mb)
set_option maxHeartbeats 4000000 in
set_option maxRecDepth 100000 in
theorem fine_any {w : World} {SB LB mb n last : Nat} {m : Mk} (hs : Blk w SB 95 #[.map (some mb)]) (hl : Blk w LB 22 #[.int .u64 (last : Int)]) (hm : MapB w mb n m) (hn : n < maxLen) (hne : SB ≠ mb) (hne2 : LB ≠ mb) (x : Nat) (hx : x ≤ 18446744073709551615) :
    Calls Try.prog 52 #[.int .u64 (x : Int), .pointer (some ⟨SB, 0, none⟩), .pointer (some ⟨LB, 0, none⟩)] w (FineP w mb n last x m) := by
  have hlk : ∀ {w : World}, MapB w mb n m → Sem.run Try.prog (Instr.lookup 95 (.map (some mb)) (.int .u64 (x : Int)) false) w = .ok (.bool (mget false m x)) w := fun h => h.lookup Try.underlying22 Try.underlying95 trivial (bool_zero _) (wf_u64 hx)
  have q1 := hlk hm
  obtain ⟨w2, hrun0, m2, g2⟩ := hm.update Try.underlying22 Try.underlying95 hn (a := true) trivial (s := x) (wf_u64 hx)
  have hrun : Sem.run Try.prog (Instr.mapUpdate 95 (.map (some mb)) (.int .u64 (x : Int)) (.bool true)) w = .ok () w2 := hrun0
  have hl2 := Blk.grown hl g2 (fun e => hne2 (Option.some.inj e))
  have c0 := hs.cell 0
  have l2 := hl2.cell 0
  simp only [List.getElem?_toArray, List.getElem?_cons_zero] at c0 l2
  have M2 := Lib.hid m2
  have G2 := Lib.hid g2
  clear hlk hrun0 m2 g2 hs hl hm hl2
  have hf : fineM m last x = (!(mget false m x) && decide (x ≤ last)) := rfl
  have HF := Lib.hid hf
  unfold FineP
  rw [hf]
  clear hf
  generalize mget false m x = B at *
  cases B
  · have e1 : decide ((x : Int) ≤ (last : Int)) = decide (x ≤ last) := by rw [decide_eq_decide]; omega
    go_enter Try.func52, Try.ntmps52
    go_wp2_with fail
    go_ret
    exact ⟨by simp, M2.out, G2.out⟩
  · go_enter Try.func52, Try.ntmps52
    go_wp2_with fail
    go_ret
    exact ⟨by simp, M2.out, G2.out⟩
end Go.Proofs.Ytckdfnlleaifcaa
