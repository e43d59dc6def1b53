/- StampPlays. -/
import Derived.Test.YtckdfnlleaifcaaStnL
import Derived.Test.YtckdfnlleaifcaaStmX
import Derived.OpenShut
import Derived.Test.YtckdfnlleaifcaaOpenS
import Derived.Test.YtckdfnlleaifcaaQTail
import Derived.Deep.DeepCutAuto
namespace Go.Proofs.Ytckdfnlleaifcaa
set_option linter.unusedVariables false
open Go.RowKit Go.Maps Go.Sort

theorem step_any {w : World} {g gr now last n n5 c : Nat} {q : Option Addr} {E : List Ev} {d : List Tg} {O : Nat → Prop} (h : Syn w g gr now last n q n5 c E d O) (hn : n ≤ 98000) (hl : last + 2 < 18446744073709551615) (what t : Int) (a : Nat) (ha : a ≤ 18446744073709551615) :
    Calls Try.prog 31 #[.pointer (some ⟨g, 0, none⟩), mV gr now last (.slice q n5 c), .agg #[.int .i64 what, .int .i64 t, .int .u64 (a : Int)]] w (StepP w O gr last n (.slice q n5 c) E) := by
  by_cases h0 : what = 0
  · subst h0
    cases hT : tagB t
    · exact step_hardBad h hn t hT (by omega) a ha
    · obtain ⟨k, rfl, _, _⟩ := tagB_nat hT
      exact step_hard h hn k hT (by omega) a ha
  by_cases h1 : what = 1
  · subst h1
    cases hT : tagB t
    · exact step_softBad h hn t hT (by omega) a ha
    · obtain ⟨k, rfl, _, _⟩ := tagB_nat hT
      exact step_soft h hn k hT (by omega) a ha
  by_cases h2 : what = 2
  · subst h2
    exact step_other h hn t (by omega) a ha
  by_cases h3 : what = 3
  · subst h3
    exact step_adv h hn t a ha
  by_cases h4 : what = 4
  · subst h4
    cases hT : tagB t
    · exact step_forgetBad h hn t hT a ha
    · obtain ⟨k, rfl, _, _⟩ := tagB_nat hT
      exact step_forget h hn k hT a ha
  by_cases h5 : what = 5
  · subst h5
    exact step_restore h hn t a ha
  exact step_copy h hn what t (fun k k0 k5 e => by omega) hl a ha
/-- The law's state: stamps and the document's, and its box M. -/
structure Pz (V w : World) (M g gr now last n : Nat) (q : Option Addr) (n5 c : Nat) (E : List Ev) (d : List Tg) (O : Nat → Prop) : Prop where
  syn : Syn w g gr now last n q n5 c E d O
  bx : Blk w M 57 #[.int .u64 (gr : Int), .int .u64 (now : Int), .int .u64 (last : Int), .slice q n5 c]
  mo : ¬ O M
  ml : ∀ z, (Value.slice q n5 c).ownBlock = some z → z ≠ M
  me : ∀ e ∈ E, ∀ z, e.v.ownBlock = some z → z ≠ M
  ol : ∀ x, O x → V.heap.size ≤ x
  mv : V.heap.size ≤ M
  bel : Below V.heap.size V w
section
variable {V w w1 : World} {M g g2 gr now last n now2 last2 n2 n5 n6 c c2 : Nat} {q q2 : Option Addr} {E E2 : List Ev} {d d2 : List Tg} {O O2 : Nat → Prop}
theorem Pz.below (h : Pz V w M g gr now last n q n5 c E d O) (hb : Below w.heap.size w w1) : Pz V w1 M g gr now last n q n5 c E d O :=
  ⟨h.syn.below hb, h.bx.below hb h.bx.lt, h.mo, h.ml, h.me, h.ol, h.mv, h.bel.trans (hb.mono h.bel.size)⟩
theorem Pz.cells (h : Pz V w M g gr now last n q n5 c E d O) : w.cell? ⟨M, 0, none⟩ = some (.int .u64 (gr : Int)) ∧ w.cell? ⟨M, 1, none⟩ = some (.int .u64 (now : Int)) ∧ w.cell? ⟨M, 2, none⟩ = some (.int .u64 (last : Int)) ∧ w.cell? ⟨M, 3, none⟩ = some (.slice q n5 c) :=
  ⟨Blk.cell h.bx 0, Blk.cell h.bx 1, Blk.cell h.bx 2, Blk.cell h.bx 3⟩
end
/-- The same, when step has returned; N: the new box. -/
structure Pn (V w : World) (M N : Nat) (cm : Array Value) (g gr now last n : Nat) (q : Option Addr) (n5 c : Nat) (E : List Ev) (d : List Tg) (O : Nat → Prop) : Prop where
  syn : Syn w g gr now last n q n5 c E d O
  bm : Blk w M 57 cm
  bn : Blk w N 57 #[.int .u64 (gr : Int), .int .u64 (now : Int), .int .u64 (last : Int), .slice q n5 c]
  mn : M ≠ N
  mo : ¬ O M
  no : ¬ O N
  ml : ∀ z, (Value.slice q n5 c).ownBlock = some z → z ≠ M
  me : ∀ e ∈ E, ∀ z, e.v.ownBlock = some z → z ≠ M
  ol : ∀ x, O x → V.heap.size ≤ x
  mv : V.heap.size ≤ M
  bel : Below V.heap.size V w
section
variable {V w W w5 : World} {M N g g2 gr now last n now2 last2 n2 n5 n6 c c2 : Nat} {q q2 : Option Addr} {E E2 : List Ev} {d d2 : List Tg} {O O2 : Nat → Prop} {cm : Array Value}
theorem Pn.below (h : Pn V w M N cm g gr now last n q n5 c E d O) (hb : Below w.heap.size w W) : Pn V W M N cm g gr now last n q n5 c E d O :=
  ⟨h.syn.below hb, h.bm.below hb h.bm.lt, h.bn.below hb h.bn.lt, h.mn, h.mo, h.no, h.ml, h.me, h.ol, h.mv, h.bel.trans (hb.mono h.bel.size)⟩
theorem Pn.ncells (h : Pn V w M N cm g gr now last n q n5 c E d O) : w.cell? ⟨N, 0, none⟩ = some (.int .u64 (gr : Int)) ∧ w.cell? ⟨N, 1, none⟩ = some (.int .u64 (now : Int)) ∧ w.cell? ⟨N, 2, none⟩ = some (.int .u64 (last : Int)) ∧ w.cell? ⟨N, 3, none⟩ = some (.slice q n5 c) :=
  ⟨Blk.cell h.bn 0, Blk.cell h.bn 1, Blk.cell h.bn 2, Blk.cell h.bn 3⟩
theorem is_syn (h : Syn w g gr now last n q n5 c E d O) (t : Int) (hn : n ≤ 100000) :
    Calls Try.prog 24 #[.pointer (some ⟨g, 0, none⟩), mV gr now last (.slice q n5 c), .int .i64 t] w (IsP w O g gr now last n d) := by
  obtain ⟨h1, h2, h3, h4, h5, h6, h7, h8⟩ := h
  subst h4
  exact is_any h1 h2 h5 h6 h7 t hn
theorem Pn.turn (h : Pn V w M N cm g gr now last n q n5 c E d O) (hs : St W g gr now last n d O) (ho : Only O w W) : Pn V W M N cm g gr now last n q n5 c E d O :=
  ⟨⟨hs, h.syn.li.only ho h.syn.lo h.syn.eo, h.syn.lt.size ho.size, h.syn.ln, h.syn.un, h.syn.lo, h.syn.eo, h.syn.iv⟩, h.bm.only ho h.mo, h.bn.only ho h.no, h.mn, h.mo, h.no, h.ml, h.me, h.ol, h.mv, h.bel.trans (ho.below h.ol h.bel.size)⟩
theorem Pn.close {x0 x1 x2 x3 : Value} (h : Pn V w M N #[x0, x1, x2, x3] g gr now last n q n5 c E d O) : Pz V ((((w.setCell ⟨M, 0, none⟩ (.int .u64 (gr : Int))).setCell ⟨M, 1, none⟩ (.int .u64 (now : Int))).setCell ⟨M, 2, none⟩ (.int .u64 (last : Int))).setCell ⟨M, 3, none⟩ (.slice q n5 c)).drew M g gr now last n q n5 c E d O := by
  have ho : Only (fun x => x = M) w ((((w.setCell ⟨M, 0, none⟩ (.int .u64 (gr : Int))).setCell ⟨M, 1, none⟩ (.int .u64 (now : Int))).setCell ⟨M, 2, none⟩ (.int .u64 (last : Int))).setCell ⟨M, 3, none⟩ (.slice q n5 c)).drew := (((((Only.refl (fun x => x = M) w).setCell1 (g := M) (.inl rfl) 0 (.int .u64 (gr : Int))).setCell1 (g := M) (.inl rfl) 1 (.int .u64 (now : Int))).setCell1 (g := M) (.inl rfl) 2 (.int .u64 (last : Int))).setCell1 (g := M) (.inl rfl) 3 (.slice q n5 c)).trans (Only.of_below ((Below.refl _ _).drew) (fun _ => False)) (fun _ h => h.elim)
  refine ⟨⟨h.syn.st.other ho (fun x hx e => h.mo (e ▸ hx)), h.syn.li.only ho h.ml h.me, h.syn.lt.size ho.size, h.syn.ln, h.syn.un, h.syn.lo, h.syn.eo, h.syn.iv⟩, ?_, h.mo, h.ml, h.me, h.ol, h.mv, h.bel.trans (ho.below (fun x hx => by have := h.mv; omega) h.bel.size)⟩
  have := (((h.bm.set_ 0 (.int .u64 (gr : Int))).set_ 1 (.int .u64 (now : Int))).set_ 2 (.int .u64 (last : Int))).set_ 3 (.slice q n5 c)
  simp only [List.setIfInBounds_toArray, List.set_cons_zero, List.set_cons_succ] at this
  exact this
theorem Pz.low (h : Pz V w M g gr now last n q n5 c E d O) (hW : Below w.heap.size w W) (sy : Syn w5 g2 gr now2 last2 n2 q2 n6 c2 E2 d2 O2) (go : Gon W O w5 O2 (.slice q n5 c) E (.slice q2 n6 c2) E2) :
    (¬ O2 M ∧ (∀ z, (Value.slice q2 n6 c2).ownBlock = some z → z ≠ M) ∧ (∀ e ∈ E2, ∀ z, e.v.ownBlock = some z → z ≠ M) ∧ (∀ x, O2 x → V.heap.size ≤ x)) ∧ Blk w5 M 57 #[.int .u64 (gr : Int), .int .u64 (now : Int), .int .u64 (last : Int), .slice q n5 c] ∧ Below V.heap.size V w5 := by
  have s0 := h.bx.lt
  have s1 := hW.size
  have s2 := h.bel.size
  refine ⟨⟨fun hO => ?_, fun z hz e => ?_, fun e he z hz e2 => ?_, fun x hx => ?_⟩, (h.bx.below hW h.bx.lt).only go.go.only h.mo, (h.bel.trans (hW.mono h.bel.size)).trans (go.go.only.below h.ol (by omega))⟩
  · rcases go.go.new M hO with k | k
    · exact h.mo k
    · omega
  · rcases go.lo z hz with k | k
    · omega
    · exact h.ml z k e
  · rcases go.eo e he z hz with k | ⟨e0, k0, k⟩
    · omega
    · exact h.me e0 k0 z k e2
  · rcases go.go.new x hx with k | k
    · exact h.ol x k
    · omega
/-- The new box was made ahead of the call. -/
theorem Pz.before (h : Pz V w M g gr now last n q n5 c E d O) (sy : Syn w5 g2 gr now2 last2 n2 q2 n6 c2 E2 d2 O2) (go : Gon (w.drew.alloc (.cells #[.int .u64 0, .int .u64 0, .int .u64 0, .slice none 0 0] 57)) O w5 O2 (.slice q n5 c) E (.slice q2 n6 c2) E2) (z : Nat) (hz : z = w.heap.size) :
    Pn V ((((w5.setCell ⟨z, 0, none⟩ (.int .u64 (gr : Int))).setCell ⟨z, 1, none⟩ (.int .u64 (now2 : Int))).setCell ⟨z, 2, none⟩ (.int .u64 (last2 : Int))).setCell ⟨z, 3, none⟩ (.slice q2 n6 c2)) M z #[.int .u64 (gr : Int), .int .u64 (now : Int), .int .u64 (last : Int), .slice q n5 c] g2 gr now2 last2 n2 q2 n6 c2 E2 d2 O2 := by
  have hW : Below w.heap.size w (w.drew.alloc (.cells #[.int .u64 0, .int .u64 0, .int .u64 0, .slice none 0 0] 57)) := ((Below.refl w.heap.size w).drew).alloc (Nat.le_refl _) _
  obtain ⟨⟨k1, k2, k3, k4⟩, k5, k6⟩ := h.low hW sy go
  have s0 := h.bx.lt
  have s2 := h.bel.size
  have hws : (w.drew.alloc (.cells #[.int .u64 0, .int .u64 0, .int .u64 0, .slice none 0 0] 57)).heap.size = w.heap.size + 1 := by simp
  have hzo : ¬ O z := fun hO => by have := h.syn.st.lt hO; omega
  have hzo2 : ¬ O2 z := fun hO => by
    rcases go.go.new z hO with k | k
    · exact hzo k
    · omega
  have hB : Blk w5 z 57 #[.int .u64 0, .int .u64 0, .int .u64 0, .slice none 0 0] := by
    have := (Blk.new w.drew 57 #[.int .u64 0, .int .u64 0, .int .u64 0, .slice none 0 0]).only go.go.only (fun hx => hzo (by rw [hz]; exact hx))
    rw [hz]
    exact this
  have ho : Only (fun x => x = z) w5 ((((w5.setCell ⟨z, 0, none⟩ (.int .u64 (gr : Int))).setCell ⟨z, 1, none⟩ (.int .u64 (now2 : Int))).setCell ⟨z, 2, none⟩ (.int .u64 (last2 : Int))).setCell ⟨z, 3, none⟩ (.slice q2 n6 c2)) := ((((Only.refl (fun x => x = z) w5).setCell1 (g := z) (.inl rfl) 0 (.int .u64 (gr : Int))).setCell1 (g := z) (.inl rfl) 1 (.int .u64 (now2 : Int))).setCell1 (g := z) (.inl rfl) 2 (.int .u64 (last2 : Int))).setCell1 (g := z) (.inl rfl) 3 (.slice q2 n6 c2)
  have hl : ∀ y, (Value.slice q2 n6 c2).ownBlock = some y → y ≠ z := fun y hy e => by
    rcases go.lo y hy with k | k
    · omega
    · have := h.syn.lt.1 y k; omega
  have he : ∀ e ∈ E2, ∀ y, e.v.ownBlock = some y → y ≠ z := fun e he y hy e2 => by
    rcases go.eo e he y hy with k | ⟨e0, k0, k⟩
    · omega
    · have := h.syn.lt.2 e0 k0 y k; omega
  have hsz := ho.size
  refine ⟨⟨sy.st.other ho (fun x hx e => hzo2 (e ▸ hx)), sy.li.only ho (fun y hy e => hl y hy e) (fun e1 h1 y hy e => he e1 h1 y hy e), sy.lt.size hsz, sy.ln, sy.un, sy.lo, sy.eo, sy.iv⟩, k5.only ho (by omega), ?_, by omega, k1, hzo2, k2, k3, k4, h.mv, k6.trans (ho.below (fun x hx => by omega) (by have := k6.size; omega))⟩
  have := (((hB.set_ 0 (.int .u64 (gr : Int))).set_ 1 (.int .u64 (now2 : Int))).set_ 2 (.int .u64 (last2 : Int))).set_ 3 (.slice q2 n6 c2)
  simp only [List.setIfInBounds_toArray, List.set_cons_zero, List.set_cons_succ] at this
  exact this
/-- The new box is made behind the call. -/
theorem Pz.after (h : Pz V w M g gr now last n q n5 c E d O) (sy : Syn w5 g2 gr now2 last2 n2 q2 n6 c2 E2 d2 O2) (go : Gon w.drew O w5 O2 (.slice q n5 c) E (.slice q2 n6 c2) E2) (z : Nat) (hz : z = w5.heap.size) :
    Pn V (w5.alloc (.cells #[.int .u64 (gr : Int), .int .u64 (now2 : Int), .int .u64 (last2 : Int), .slice q2 n6 c2] 57)) M z #[.int .u64 (gr : Int), .int .u64 (now : Int), .int .u64 (last : Int), .slice q n5 c] g2 gr now2 last2 n2 q2 n6 c2 E2 d2 O2 := by
  subst hz
  obtain ⟨⟨k1, k2, k3, k4⟩, k5, k6⟩ := h.low ((Below.refl w.heap.size w).drew) sy go
  have hb := (Below.refl w5.heap.size w5).alloc (Nat.le_refl _) (.cells #[.int .u64 (gr : Int), .int .u64 (now2 : Int), .int .u64 (last2 : Int), .slice q2 n6 c2] 57)
  exact ⟨sy.below hb, k5.alloc _, Blk.new _ _ _, by have := k5.lt; omega, k1, (fun hO => by have := sy.st.lt hO; omega), k2, k3, k4, h.mv, k6.trans (hb.mono k6.size)⟩
end
set_option maxHeartbeats 8000000 in
set_option maxRecDepth 100000 in
theorem plays_some (gr : Nat) (hg : gr ≤ 1099511627776) (p : Option Addr) (cap : Nat) (L : List SAc) (hn : L.length ≤ 50) (ho : ∀ x ∈ L, 0 ≤ x.2.2 ∧ x.2.2 ≤ 18446744073709551615) (w : World) (hl : SActsOf w p L) :
    Calls Try.prog 6 #[.int .u64 (gr : Int), .slice p L.length cap] w fun e w' => e = .returned (.bool true) ∧ Below w.heap.size w w' := by
  have HG := Lib.hid (rgrace_any gr)
  have HF := Lib.hid (few_any p cap L.length (by omega))
  rw [decide_eq_true hg] at HG
  rw [decide_eq_true hn] at HF
  have HN := Lib.hid (new_ok gr hg w)
  have HL := Lib.hid hl
  have HO := Lib.hid ho
  obtain ⟨n5, hn5⟩ : ∃ n5, n5 = L.length := ⟨_, rfl⟩
  rw [← hn5] at hn HF ⊢
  have HN5 := Lib.hid hn5
  clear hl ho hn5
  go_enter Try.func6, Try.ntmps6
  go_wp2_with (first
    | (go_at_call 8; refine (HG.out _).mono ?_; rintro e w1 ⟨rfl, rfl⟩)
    | (go_at_call 9; refine (HF.out _).mono ?_; rintro e w1 ⟨rfl, rfl⟩))
  refine HN.out.mono ?_
  rintro e w1 ⟨g, O, rfl, s1, hO, b1⟩
  have P1 : Hid (Pz w (w1.alloc (.cells #[.int .u64 (gr : Int), .int .u64 0, .int .u64 0, .slice none 0 0] 57)) w1.heap.size g gr 0 0 0 none 0 0 [] [] O) := by
    have hb := (Below.refl w1.heap.size w1).alloc (Nat.le_refl _) (.cells #[.int .u64 (gr : Int), .int .u64 0, .int .u64 0, .slice none 0 0] 57)
    exact ⟨⟨s1.below hb, ⟨RowAt.nil _ _, (fun e h => by cases h), ⟨Nat.zero_le _, fun e h => by cases h⟩⟩, ⟨fun z hz => by simp [Value.ownBlock] at hz, fun e h => by cases h⟩, rfl, rfl, (fun z hz => by simp [Value.ownBlock] at hz), (fun e h => by cases h), ⟨(fun x h => by cases h), List.nodup_nil⟩⟩, Blk.new _ _ _, (fun h => by have := s1.lt h; omega), (fun z hz => by simp [Value.ownBlock] at hz), (fun e h => by cases h), hO, b1.size, b1.trans (hb.mono b1.size)⟩
  clear s1 hO b1 HN HG HF
  go_wp2_with fail
  obtain ⟨M, hM⟩ : ∃ M, w1.heap.size = M := ⟨_, rfl⟩
  rw [hM] at P1
  simp only [hM]
  clear hM
  generalize w1.alloc (.cells #[.int .u64 (gr : Int), .int .u64 0, .int .u64 0, .slice none 0 0] 57) = W1 at *
  go_loopg [5, 8] n5 (fun r s5 s8 wr => ∃ (i g now last n : Nat) (q : Option Addr) (m c : Nat) (E : List Ev) (d : List Tg) (O : Nat → Prop), r + i = n5 ∧ s8 = .int .i64 (i : Int) ∧ s5 = .pointer (some ⟨g, 0, none⟩) ∧ last ≤ i ∧ n ≤ i ∧ Pz w wr M g gr now last n q m c E d O)
  case atStart => exact ⟨0, g, 0, 0, 0, none, 0, 0, [], [], O, rfl, rfl, rfl, Nat.le_refl _, Nat.le_refl _, P1.out⟩
  case round => as_aux_lemma =>
    clear P1
    obtain ⟨i, g, now, last, n, q, m, c, E, d, O, hi', rfl, rfl, hla, hnn, pz⟩ := hrel
    have HI := Lib.hid hi'
    have hil : i ≤ n5 := by omega
    have PZ := Lib.hid pz
    clear hi' pz
    by_cases hlt : i < n5
    · obtain ⟨x, hx⟩ : ∃ x, L[i]? = some x := ⟨L[i]'(by rw [← HN5.out]; exact hlt), List.getElem?_eq_getElem _⟩
      have hxo := HO.out x (List.mem_of_getElem? hx)
      obtain ⟨blk, off, rfl, hbl, f0, f1, f2⟩ := HL.out i x hx
      have HC := Lib.hid (fun (w' : World) (hb : Below w.heap.size w w') => And.intro ((hb.cell (p := ⟨blk, off + i * 3, none⟩) hbl).trans f0) (And.intro ((hb.cell (p := ⟨blk, off + i * 3 + 1, none⟩) hbl).trans f1) ((hb.cell (p := ⟨blk, off + i * 3 + 2, none⟩) hbl).trans f2)))
      obtain ⟨what, t, a0⟩ := x
      dsimp only at hxo f0 f1 f2 HC
      obtain ⟨a, rfl⟩ : ∃ a : Nat, a0 = (a : Int) := ⟨a0.toNat, by omega⟩
      have ha : a ≤ 18446744073709551615 := by omega
      clear hx f0 f1 f2 hxo
      go_wp2_with fail
      go_cut [9, 10, 11] (fun s9 s10 s11 wx => ∃ (N g2 now2 last2 n2 : Nat) (q2 : Option Addr) (n6 c2 : Nat) (E2 : List Ev) (d2 : List Tg) (O2 : Nat → Prop), s9 = .pointer (some ⟨g2, 0, none⟩) ∧ s10 = .pointer (some ⟨N, 0, none⟩) ∧ s11 = .bool true ∧ last2 ≤ last + 1 ∧ n2 ≤ n + 1 ∧ Pn w wx M N #[.int .u64 (gr : Int), .int .u64 (now : Int), .int .u64 (last : Int), .slice q m c] g2 gr now2 last2 n2 q2 n6 c2 E2 d2 O2)
      case first => as_aux_lemma =>
        have PD := Lib.hid (PZ.out.below ((Below.refl _ _).drew : Below wr.heap.size wr wr.drew))
        obtain ⟨c0, c1, c2, c3⟩ := PD.out.cells
        obtain ⟨d0, d1, d2⟩ := HC.out _ PD.out.bel
        have PA := Lib.hid (PD.out.below ((Below.refl _ _).alloc (Nat.le_refl _) (.cells #[.int .u64 0, .int .u64 0, .int .u64 0, .slice none 0 0] 57)))
        obtain ⟨u0, u1, u2, u3⟩ := PA.out.cells
        obtain ⟨v0, v1, v2⟩ := HC.out _ PA.out.bel
        have PB := Lib.hid (PZ.out.below ((Below.refl _ _).alloc (Nat.le_refl _) (.cells #[.int .u64 0, .int .u64 0, .int .u64 0, .slice none 0 0] 57)))
        obtain ⟨x0, x1, x2, x3⟩ := PB.out.cells
        obtain ⟨y0, y1, y2⟩ := HC.out _ PB.out.bel
        obtain ⟨b0, b1, b2⟩ := HC.out _ PZ.out.bel
        have hMl := PZ.out.bx.lt
        go_region_law (first
          | (go_simp; go_at_call 31; refine (step_any (PZ.out.below (by first | exact (Below.refl _ _).drew | exact ((Below.refl _ _).drew).alloc (Nat.le_refl _) _)).syn (by omega) (by omega) what t a ha).mono ?_; rintro e w5 ⟨g2, now2, last2, n2, q2, n6, c2', E2, d2', O2, rfl, sy2, go2, l2, nn2⟩; have SY2 := Lib.hid sy2; have GO2 := Lib.hid go2; (first
              | (have BZ : Blk w5 wr.heap.size 57 #[.int .u64 0, .int .u64 0, .int .u64 0, .slice none 0 0] := (Blk.new wr.drew 57 #[.int .u64 0, .int .u64 0, .int .u64 0, .slice none 0 0]).only go2.go.only (fun hO => Nat.lt_irrefl _ (PZ.out.syn.st.lt hO)); have z0 := Blk.cell BZ 0; have z1 := Blk.cell BZ 1; have z2 := Blk.cell BZ 2; have z3 := Blk.cell BZ 3; have zf := Blk.frozen BZ; simp only [List.getElem?_toArray, List.getElem?_cons_zero, List.getElem?_cons_succ] at z0 z1 z2 z3)
              | skip); clear sy2 go2))
        all_goals go_wp2_with fail
        all_goals go_meet
        all_goals first
          | exact ⟨wr.heap.size, g2, now2, last2, n2, q2, n6, c2', E2, d2', O2, rfl, rfl, rfl, l2, nn2, PZ.out.before SY2.out GO2.out wr.heap.size rfl⟩
          | exact ⟨w5.heap.size, g2, now2, last2, n2, q2, n6, c2', E2, d2', O2, rfl, rfl, rfl, l2, nn2, PZ.out.after SY2.out GO2.out w5.heap.size rfl⟩
      case rest => as_aux_lemma =>
        obtain ⟨N, g2, now2, last2, n2, q2, n6, c2, E2, d2, O2, rfl, rfl, rfl, hl2, hn2, pn⟩ := hcut
        have PN := Lib.hid (pn.below ((Below.refl _ _).drew : Below wc.heap.size wc wc.drew))
        obtain ⟨c0, c1, c2', c3⟩ := PN.out.ncells
        obtain ⟨d0, d1, d2'⟩ := HC.out _ PN.out.bel
        obtain ⟨b0, b1, b2, b3⟩ := pn.ncells
        obtain ⟨k0, k1, k2⟩ := HC.out _ pn.bel
        have HIS := Lib.hid (is_syn PN.out.syn t (by omega))
        clear pn
        go_wp2_with fail
        refine wp_region_qtail 14 (by kernel_rfl) (by kernel_rfl) ?_
        simp only [List.take_succ_cons, List.take_zero, List.drop_succ_cons, List.drop_zero]
        repeat (go_big_quiet_step (fail))
        refine wpQuiet_nil ?_
        go_wp2_with fail
        refine HIS.out.mono ?_
        rintro e w6 ⟨rfl, s6, o6⟩
        have P6 := Lib.hid (PN.out.turn s6 o6)
        clear s6 o6 HIS PN c0 c1 c2' c3 d0 d1 d2' b0 b1 b2 b3 k0 k1 k2
        have P7 := Lib.hid (P6.out.below ((Below.refl _ _).drew : Below w6.heap.size w6 w6.drew))
        obtain ⟨c0, c1, c2', c3⟩ := P6.out.ncells
        obtain ⟨d0, d1, d2', d3⟩ := P7.out.ncells
        have m0 := Blk.cell P6.out.bm 0
        have m1 := Blk.cell P6.out.bm 1
        have m2 := Blk.cell P6.out.bm 2
        have m3 := Blk.cell P6.out.bm 3
        have mf := P6.out.bm.frozen
        have u0 := Blk.cell P7.out.bm 0
        have u1 := Blk.cell P7.out.bm 1
        have u2 := Blk.cell P7.out.bm 2
        have u3 := Blk.cell P7.out.bm 3
        have uf := P7.out.bm.frozen
        have hMN := P6.out.mn
        have hNM : N ≠ M := fun e => hMN e.symm
        simp only [List.getElem?_toArray, List.getElem?_cons_zero, List.getElem?_cons_succ] at m0 m1 m2 m3 u0 u1 u2 u3
        go_wp2_with fail
        go_region
        go_wp2_with fail
        have P8 := Lib.hid P6.out.close
        go_roundg (gk - 1)
        case measure => have := HI.out; omega
        case rel => exact ⟨i + 1, g2, now2, last2, n2, q2, n6, c2, E2, d2, O2, by have := HI.out; omega, by go_num, rfl, by omega, by omega, P8.out⟩
    · obtain rfl : i = n5 := by omega
      have hbel := PZ.out.bel
      have HBL := Lib.hid hbel
      clear hbel
      go_wp2_with fail
      refine (known_any _).mono ?_
      rintro e w3 ⟨rfl, b3⟩
      go_wp2_with fail
      go_ret
      exact ⟨rfl, HBL.out.trans (b3.mono HBL.out.size)⟩
set_option maxHeartbeats 4000000 in
set_option maxRecDepth 100000 in
theorem plays_skip (gr : Nat) (q : Option Addr) (cap n : Nat) (hn : n ≤ 140737488355328) (w : World) (hno : ¬ (gr ≤ 1099511627776 ∧ n ≤ 50)) :
    Calls Try.prog 6 #[.int .u64 (gr : Int), .slice q n cap] w fun e w' => e = .returned (.bool true) ∧ Below w.heap.size w w' := by
  have CF := few_any q cap n hn w
  have CG := rgrace_any gr w
  have key : ∀ (b1 b2 : Bool), (b1 && b2) = false →
      Calls Try.prog 8 #[.int .u64 (gr : Int)] w (fun e w' => e = .returned (.bool b1) ∧ w = w') →
      Calls Try.prog 9 #[.slice q n cap] w (fun e w' => e = .returned (.bool b2) ∧ w = w') →
      Calls Try.prog 6 #[.int .u64 (gr : Int), .slice q n cap] w fun e w' => e = .returned (.bool true) ∧ Below w.heap.size w w' := by
    clear CF CG hno hn
    intro b1 b2 hb CG CF
    have CG := Lib.hid CG
    have CF := Lib.hid CF
    cases b1 <;> cases b2 <;> first | (simp at hb; done) | skip
    all_goals
      clear hb
      go_enter Try.func6, Try.ntmps6
      go_wp2_with (first
        | (go_at_call 9; refine CF.out.mono ?_; rintro e w1 ⟨rfl, rfl⟩)
        | (go_at_call 8; refine CG.out.mono ?_; rintro e w1 ⟨rfl, rfl⟩))
      refine (known_any _).mono ?_
      rintro e w2 ⟨rfl, b2⟩
      go_wp2_with fail
      go_ret
      exact ⟨rfl, b2⟩
  refine key _ _ ?_ CG CF
  rw [Bool.eq_false_iff]
  intro hb
  simp only [Bool.and_eq_true, decide_eq_true_eq] at hb
  exact hno hb
theorem plays_walk (gr : Int) (hb : 0 ≤ gr ∧ gr ≤ 18446744073709551615) (q : Option Addr) (cap : Nat) (L : List SAc) (hn : L.length ≤ 140737488355328) (hw : ∀ x ∈ L, (Lit.int .i64 x.1).wf = true ∧ (Lit.int .i64 x.2.1).wf = true ∧ (Lit.int .u64 x.2.2).wf = true) (w : World) (hR : SActsOf w q L) :
    Calls Try.prog 6 #[.int .u64 gr, .slice q L.length cap] w fun e w' => e = .returned (.bool true) ∧ Below w.heap.size w w' := by
  obtain ⟨G, rfl⟩ : ∃ G : Nat, gr = (G : Int) := ⟨gr.toNat, by omega⟩
  by_cases h : G ≤ 1099511627776 ∧ L.length ≤ 50
  · exact plays_some G h.1 q cap L h.2 (fun X hX => bounds_u64 (hw X hX).2.2) w hR
  · exact plays_skip G q cap L.length hn w h
end Go.Proofs.Ytckdfnlleaifcaa
