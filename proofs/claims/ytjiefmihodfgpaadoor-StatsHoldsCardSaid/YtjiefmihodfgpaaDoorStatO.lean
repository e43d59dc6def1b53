/- The program's Note. -/
import Derived.Test.YtjiefmihodfgpaaDoorStatN
namespace Go.Proofs.YtjiefmihodfgpaaDoor
set_option linter.unusedVariables false
open Go.RowKit Go.Maps Go.Sort

/-- The cells of a response. -/
structure Rp where
  op : Int
  err : Int
  ver : Int
  cnt : Int
  p : Option Addr
  cap : Nat
  q : Option Addr
  n2 : Nat
  c2 : Nat
abbrev rcs (R : Rp) (n : Nat) : Array Value := #[.int .i64 R.op, .int .i64 R.err, .slice R.p n R.cap, .int .u64 R.ver, .int .i64 R.cnt, .slice R.q R.n2 R.c2]

theorem raise_I (b : Nat) (l : List Int) (i : Int) (n : Int) (h1 : -1 ≤ i) (h2 : i < 16) (hn : 0 ≤ n) (hn2 : n ≤ 9223372036854775807) (hU : ∀ x ∈ l, isU x) (w : World) (h : CntAt w b l) :
    Calls Tryd.prog 36 #[.pointer (some ⟨b, 0, none⟩), .int .i64 i, .int .i64 n] w fun e w' => e = .returned (.tuple #[]) ∧ CntAt w' b (raiseI l i n) ∧ w.grownBy w' (some b) := by
  by_cases h0 : i < 0
  · have hr : raiseI l i n = l := by unfold raiseI; rw [if_pos h0]
    rw [hr]
    have HC := Lib.hid h
    clear h hr
    go_enter Tryd.func36, Tryd.ntmps36
    go_wp2_with fail
    refine bodyPost_end (results_none Tryd.results36 _ _ _) rfl ?_
    exact ⟨rfl, HC.out, only_refl _ _⟩
  · obtain ⟨j, rfl⟩ := Int.eq_ofNat_of_zero_le (by omega : 0 ≤ i)
    have hr : raiseI l (j : Int) n = raiseL l j n := by unfold raiseI; rw [if_neg h0]; rfl
    rw [hr]
    exact raise_any b l j n (by omega) hn hn2 hU w h

/-- Within Note: the counts, the box, the items and the tables. -/
structure Sn (w0 w : World) (b r : Nat) (R : Array Value) (p : Option Addr) (ms l : List Int) : Prop where
  cnt : CntAt w b l
  isu : ∀ x ∈ l, isU x
  box : Blk w r 40 R
  rb : r ≠ b
  items : ItemsAt w b p ms
  laid : LaidS w
  b8 : 8 ≤ b
  gr : w0.grownBy w (some b)
section
variable {w0 w w' : World} {b r : Nat} {R : Array Value} {p : Option Addr} {ms l l' : List Int}
theorem Sn.quiet (s : Sn w0 w b r R p ms l) (hb : Below w.heap.size w w') : Sn w0 w' b r R p ms l :=
  ⟨⟨s.cnt.1, Blk.below s.cnt.2 hb (Blk.lt s.cnt.2)⟩, s.isu, Blk.below s.box hb (Blk.lt s.box), s.rb, s.items.below hb, s.laid.below hb s.laid.ge, s.b8, only_trans s.gr (only_of_below hb _)⟩
theorem Sn.step (s : Sn w0 w b r R p ms l) (hc : CntAt w' b l') (hu : ∀ x ∈ l', isU x) (hg : w.grownBy w' (some b)) : Sn w0 w' b r R p ms l' :=
  ⟨hc, hu, Blk.grown s.box hg (fun e => s.rb (by injection e)), s.rb, s.items.grown hg, s.laid.grown hg s.b8, s.b8, only_trans s.gr hg⟩
theorem Sn.raise (s : Sn w0 w b r R p ms l) (i n : Int) (h1 : -1 ≤ i) (h2 : i < 16) (hn : 0 ≤ n) (hn2 : n ≤ 9223372036854775807) (l' : List Int) (hl : raiseI l i n = l') :
    Calls Tryd.prog 36 #[.pointer (some ⟨b, 0, none⟩), .int .i64 i, .int .i64 n] w fun e w' => e = .returned (.tuple #[]) ∧ Sn w0 w' b r R p ms l' := by
  subst hl
  exact (raise_I b l i n h1 h2 hn hn2 s.isu w s.cnt).mono fun _ _ h => ⟨h.1, s.step h.2.1 (raiseI_is s.isu i ⟨hn, by omega⟩) h.2.2⟩
end
theorem rowOne_is (k : Nat) (h : k < 16) : -1 ≤ rowOne k ∧ rowOne k < 16 := by
  have : ∀ q : Fin 16, -1 ≤ rowOne q.val ∧ rowOne q.val < 16 := by decide
  exact this ⟨k, h⟩
theorem rowCnt_is (k : Nat) (h : k < 16) : -1 ≤ rowCnt k ∧ rowCnt k < 16 := by
  have : ∀ q : Fin 16, -1 ≤ rowCnt q.val ∧ rowCnt q.val < 16 := by decide
  exact this ⟨k, h⟩
theorem mark_one (l : List Int) (m : Int) : raiseI l (markPlace m) 1 = raiseL l (markPlace m) 1 := by
  unfold raiseI; rw [if_neg (by omega)]; rfl

theorem Sn.cells {w0 w : World} {b r : Nat} {R : Rp} {n : Nat} {p : Option Addr} {ms l : List Int} (s : Sn w0 w b r (rcs R n) p ms l) :
    w.cell? ⟨r, 0, none⟩ = some (.int .i64 R.op) ∧ w.cell? ⟨r, 1, none⟩ = some (.int .i64 R.err) ∧ w.cell? ⟨r, 2, none⟩ = some (.slice R.p n R.cap) ∧ w.cell? ⟨r, 4, none⟩ = some (.int .i64 R.cnt) :=
  ⟨Blk.cell s.box 0, Blk.cell s.box 1, Blk.cell s.box 2, Blk.cell s.box 4⟩

section
variable (b : Nat) (l ms : List Int) (R : Rp) (hl : ms.length ≤ 1000) (hU : ∀ x ∈ l, isU x) (w : World) (hc : CntAt w b l) (hI : ItemsAt w b R.p ms) (hL : LaidS w) (hb8 : 8 ≤ b)
include hl hU hc hI hL hb8
omit hl in
theorem sn_box : Sn w (w.alloc (.cells (rcs R ms.length) 40)) b w.heap.size (rcs R ms.length) R.p ms l := by
  have hlt := Blk.lt hc.2
  have hg : w.grownBy (w.alloc (.cells (rcs R ms.length) 40)) (some b) := only_alloc (only_refl _ _) _
  exact ⟨⟨hc.1, Blk.alloc hc.2 _⟩, hU, Blk.new _ _ _, by omega, hI.grown hg, hL.grown hg hb8, hb8, hg⟩
set_option maxHeartbeats 4000000 in
set_option maxRecDepth 100000 in
theorem note_bad (h : rightR R.op R.cnt ms = false) :
    Calls Tryd.prog 16 #[.pointer (some ⟨b, 0, none⟩), .agg (rcs R ms.length)] w fun e w' => e = .returned (.int .i64 2) ∧ CntAt w' b l ∧ w.grownBy w' (some b) := by
  have s0 := Lib.hid (sn_box b l ms R hU w hc hI hL hb8)
  have HC := Lib.hid (contains_any b R.p R.cap ms hl _ s0.out.items)
  clear hU hc hI hL hb8
  obtain ⟨op, err, ver, cnt, p, cap, q, n2, c2⟩ := R
  simp only at *
  have h2 : op < 1 ∨ (1 ≤ op ∧ 16 ≤ op) ∨ (1 ≤ op ∧ op < 16 ∧ cnt < 0) ∨ (1 ≤ op ∧ op < 16 ∧ 0 ≤ cnt ∧ ms.any markBad = true) := by
    unfold rightR at h
    by_cases h1 : op < 1
    · exact .inl h1
    · by_cases h2 : 16 ≤ op
      · exact .inr (.inl ⟨by omega, h2⟩)
      · by_cases h3 : cnt < 0
        · exact .inr (.inr (.inl ⟨by omega, by omega, h3⟩))
        · refine .inr (.inr (.inr ⟨by omega, by omega, by omega, ?_⟩))
          rw [decide_eq_true (by omega : 1 ≤ op), decide_eq_true (by omega : op ≤ 15), decide_eq_true (by omega : 0 ≤ cnt)] at h
          simpa using h
  clear h
  rcases h2 with h1 | ⟨h1, h2⟩ | ⟨h1, h2, h3⟩ | ⟨h1, h2, h3, h4⟩
  · clear HC
    go_enter Tryd.func16, Tryd.ntmps16
    go_wp2_with fail
    go_ret
    exact ⟨rfl, s0.out.cnt, s0.out.gr⟩
  · clear HC
    go_enter Tryd.func16, Tryd.ntmps16
    go_wp2_with fail
    go_ret
    exact ⟨rfl, s0.out.cnt, s0.out.gr⟩
  · clear HC
    go_enter Tryd.func16, Tryd.ntmps16
    go_wp2_with fail
    go_ret
    exact ⟨rfl, s0.out.cnt, s0.out.gr⟩
  · rw [h4] at HC
    clear h4
    go_enter Tryd.func16, Tryd.ntmps16
    go_wp2_with fail
    refine HC.out.mono ?_
    rintro e w2 ⟨rfl, hb2⟩
    have s1 := s0.out.quiet hb2
    go_wp2_with fail
    go_ret
    exact ⟨rfl, s1.cnt, s1.gr⟩
set_option maxHeartbeats 4000000 in
set_option maxRecDepth 100000 in
theorem note_err (h : rightR R.op R.cnt ms = true) (he : R.err ≠ 0) :
    Calls Tryd.prog 16 #[.pointer (some ⟨b, 0, none⟩), .agg (rcs R ms.length)] w fun e w' => e = .returned (.int .i64 0) ∧ CntAt w' b (raiseL l 1 1) ∧ w.grownBy w' (some b) := by
  have s0 := Lib.hid (sn_box b l ms R hU w hc hI hL hb8)
  have HC := Lib.hid (contains_any b R.p R.cap ms hl _ s0.out.items)
  clear hU hc hI hL hb8
  obtain ⟨op, err, ver, cnt, p, cap, q, n2, c2⟩ := R
  simp only at *
  obtain ⟨⟨⟨h1, h2⟩, h3⟩, h4⟩ : ((1 ≤ op ∧ op ≤ 15) ∧ 0 ≤ cnt) ∧ ms.any markBad = false := by
    unfold rightR at h
    simpa only [Bool.and_eq_true, decide_eq_true_eq, Bool.not_eq_true'] using h
  rw [h4] at HC
  have he2 : (err == 0) = false := by simpa using he
  clear h h4 he
  go_enter Tryd.func16, Tryd.ntmps16
  go_wp2_with fail
  refine HC.out.mono ?_
  rintro e w2 ⟨rfl, hb2⟩
  have s1 := s0.out.quiet hb2
  obtain ⟨c0, c1, c3, c4⟩ := s1.cells
  clear HC hb2 s0
  generalize w.heap.size = r at *
  go_wp2_with fail
  refine (s1.raise 1 1 (by decide) (by decide) (by decide) (by decide) _ rfl).mono ?_
  rintro e w3 ⟨rfl, s2⟩
  go_wp2_with fail
  go_ret
  exact ⟨rfl, s2.cnt, s2.gr⟩
end
end Go.Proofs.YtjiefmihodfgpaaDoor
