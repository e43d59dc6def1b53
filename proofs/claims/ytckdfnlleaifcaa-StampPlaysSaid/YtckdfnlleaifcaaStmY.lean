/- The document's Know. -/
import Derived.Test.YtckdfnlleaifcaaStmV
import Derived.Deep.DeepCutAuto
namespace Go.Proofs.Ytckdfnlleaifcaa
set_option linter.unusedVariables false
open Go.RowKit Go.Maps Go.Sort

theorem softK_next {g now : Nat} {l : List Sft} {i : Nat} {y : Sft} (h : l[i]? = some y) : softK g now (l.take (i + 1)) = softK g now (l.take i) ++ (if overB g now y.tm = true then [] else [y]) := by
  rw [List.take_add_one, h]
  unfold softK
  rw [List.filter_append]
  cases ho : overB g now y.tm <;> simp [ho]
theorem hardK_next {g now hd : Nat} {l : List Sft} {i : Nat} {y : Sft} (h : l[i]? = some y) : hardK g now hd (l.take (i + 1)) = if overB g now y.tm = true then max (hardK g now hd (l.take i)) y.st else hardK g now hd (l.take i) := by
  rw [List.take_add_one, h]
  unfold hardK
  rw [List.foldl_append]
  rfl
theorem lies_blk2 {w : World} {g c : Nat} {e : TypeId} {x y : Value} (h : Blk w g e #[x, y]) : Lies w 2 (.slice (some ⟨g, 0, none⟩) 1 c) 1 [x, y] := by
  refine ⟨_, c, rfl, rfl, .inr ⟨_, rfl, fun j u hj => ?_⟩⟩
  rw [addr_add]
  show w.cell? ⟨g, 0 + j, none⟩ = some u
  rw [Nat.zero_add, h.cell]
  simpa using hj
/-- What Know returns. -/
def KnowP (w : World) (gr now last : Nat) (x : Tg) (E : List Ev) (e : Ending) (w' : World) : Prop :=
  ∃ q c E', e = .returned (mV gr now last (.slice q E'.length c)) ∧ unE E' = knowT x (unE E) ∧ ListAt w' (.slice q E'.length c) E' ∧ Below w.heap.size w w' ∧ (∀ z, (Value.slice q E'.length c).ownBlock = some z → w.heap.size ≤ z ∧ z < w'.heap.size) ∧
    (∀ e ∈ E', ∀ z, e.v.ownBlock = some z → (w.heap.size ≤ z ∧ z < w'.heap.size) ∨ ∃ e0 ∈ E, e0.v.ownBlock = some z)
/-- Know's boxes. -/
structure Kb (w0 wr : World) (gr now last : Nat) (lv : Value) (t h : Nat) (xv : Value) : Prop where
  bs : Blk wr w0.heap.size 57 #[.int .u64 (gr : Int), .int .u64 (now : Int), .int .u64 (last : Int), lv]
  bx : Blk wr (w0.heap.size + 1) 43 #[.int .i64 (t : Int), .int .u64 (h : Int), xv]
  br : Blk wr (w0.heap.size + 2) 57 #[.int .u64 0, .int .u64 0, .int .u64 0, .slice none 0 0]
  bel : Below w0.heap.size w0 wr
theorem Kb.grow {w0 wr w1 : World} {gr now last t h : Nat} {lv xv : Value} (k : Kb w0 wr gr now last lv t h xv) {S : Nat → Prop} (ho : Only S wr w1) (hS : ∀ x, S x → w0.heap.size + 3 ≤ x) : Kb w0 w1 gr now last lv t h xv :=
  ⟨k.bs.only ho (fun hs => by have := hS _ hs; omega), k.bx.only ho (fun hs => by have := hS _ hs; omega), k.br.only ho (fun hs => by have := hS _ hs; omega), k.bel.trans (ho.below (fun x hx => by have := hS x hx; omega) k.bel.size)⟩
/-- The second loop: what stays, and the list that is made. -/
structure Kl (w0 wr : World) (gr now last : Nat) (lv : Value) (t h : Nat) (q : Option Addr) (c k : Nat) (SK : List Sft) (q7 : Option Addr) (c7 n7 : Nat) (Eo : List Ev) : Prop where
  kb : Kb w0 wr gr now last lv t h (.slice q k c)
  so : wr.ownsRow (w0.heap.size + 3) 52 2 (.slice q k c) k (softCells SK)
  oo : wr.ownsRow (w0.heap.size + 3) 43 3 (.slice q7 n7 c7) n7 (evCells Eo)
  nl : n7 = Eo.length
  dj : ∀ z, (Value.slice q k c).ownBlock = some z → (Value.slice q7 n7 c7).ownBlock ≠ some z
theorem Kl.below {w0 wr w1 : World} {gr now last t h c k c7 n7 : Nat} {lv : Value} {q q7 : Option Addr} {SK : List Sft} {Eo : List Ev} (l : Kl w0 wr gr now last lv t h q c k SK q7 c7 n7 Eo) (hb : Below wr.heap.size wr w1) : Kl w0 w1 gr now last lv t h q c k SK q7 c7 n7 Eo :=
  ⟨l.kb.grow (S := fun _ => False) (Only.of_below hb _) (fun x hx => hx.elim), ownsRow_below l.so hb, ownsRow_below l.oo hb, l.nl, l.dj⟩
/-- One more entry. -/
theorem Kl.app {w0 wr w3 : World} {gr now last t h c k c7 n7 : Nat} {lv : Value} {q q7 : Option Addr} {SK : List Sft} {Eo : List Ev} (l : Kl w0 wr gr now last lv t h q c k SK q7 c7 n7 Eo) (o : Obj) {v' : Value} (ev : Ev)
    (hg : (wr.alloc o).grownBy w3 (Value.slice q7 n7 c7).ownBlock) (hown : w3.ownsRow (w0.heap.size + 3) 43 3 v' (n7 + 1) (evCells Eo ++ evCells [ev])) (hat : v'.ownBlock = (Value.slice q7 n7 c7).ownBlock ∨ v'.ownBlock = some (wr.heap.size + 1)) :
    ∃ q8 c8, v' = .slice q8 (n7 + 1) c8 ∧ Kl w0 w3 gr now last lv t h q c k SK q8 c8 (n7 + 1) (Eo ++ [ev]) := by
  obtain ⟨q8, c8, rfl⟩ := own_form hown
  have hon : Only (fun z => (Value.slice q7 n7 c7).ownBlock = some z) wr w3 := ((Only.refl (fun z => (Value.slice q7 n7 c7).ownBlock = some z) wr).alloc o).trans (Only.of_grownR (S := fun z => (Value.slice q7 n7 c7).ownBlock = some z) hg (fun z hz => hz)) (fun z hz => .inl hz)
  refine ⟨q8, c8, rfl, l.kb.grow hon (fun z hz => (l.oo.lt z hz).1), ownsRow_only l.so hon (fun z hz ho => l.dj z hz ho), by rw [evCells_app]; exact hown, by rw [List.length_append, ← l.nl]; rfl, fun z hz hv => ?_⟩
  rcases hat with h1 | h1
  · exact l.dj z hz (h1 ▸ hv)
  · rw [h1] at hv
    have h2 := Option.some.inj hv
    have := (l.so.lt z hz).2
    omega
theorem knowE_mem {e z : Ev} {E : List Ev} (h : z ∈ knowE e E) : z = e ∨ z ∈ E := by
  unfold knowE at h
  split at h
  · unfold delE at h
    exact .inr (List.mem_filter.1 h).1
  · exact insE_mem h
theorem insE_len (e : Ev) : ∀ E : List Ev, (insE e E).length ≤ E.length + 1
  | [] => by simp [insE]
  | y :: r => by
    have ih := insE_len e r
    unfold insE
    split
    · simp
    · split
      · simp
      · simp; omega
theorem knowE_len (e : Ev) (E : List Ev) : (knowE e E).length ≤ E.length + 1 := by
  unfold knowE
  split
  · unfold delE
    exact Nat.le_succ_of_le (List.length_filter_le _ _)
  · exact insE_len e E
theorem know_done {w w3 W : World} {gr now last t h c k c8 n8 : Nat} {q q8 : Option Addr} {SK ps : List Sft} {ph : Nat} {E : List Ev} {lv v : Value} (l : Kl w w3 gr now last lv t h q c k SK q8 c8 n8 (knowE ⟨⟨t, ⟨h, SK⟩⟩, .slice q k c⟩ E)) (hl : ListAt w v E)
    (hE : E.length < 100000) (hk : k = SK.length) (hkl : k ≤ 100000) (hh : h = hardK gr now ph ps) (hs : SK = softK gr now ps) (ho : Only (fun x => x = w.heap.size ∨ x = w.heap.size + 2) w3 W) : KnowP w gr now last (normT gr now ⟨t, ⟨ph, ps⟩⟩) E (.returned (mV gr now last (.slice q8 n8 c8))) W := by
  have hlow : ∀ z, (z = w.heap.size ∨ z = w.heap.size + 2) → z < w.heap.size + 3 := fun z hz => by omega
  have h1 := l.nl
  subst hk
  subst h1
  have hbW : Below w.heap.size w W := l.kb.bel.trans (ho.below (fun x hx => by omega) l.kb.bel.size)
  refine ⟨q8, c8, _, rfl, ?_, ⟨RowAt.of_own (ownsRow_only l.oo ho (fun z hz hs => by have := (l.oo.lt z hz).1; have := hlow z hs; omega)), fun e he => ?_, ?_, fun e he => ?_⟩, hbW, fun z hz => by have := l.oo.lt z hz; have := ho.size; omega, fun e he z hz => ?_⟩
  · rw [knowE_un, hh, hs]
    rfl
  · rcases knowE_mem he with rfl | he
    · exact RowAt.of_own (ownsRow_only l.so ho (fun z hz hs => by have := (l.so.lt z hz).1; have := hlow z hs; omega))
    · exact (hl.soft e he).below hbW
  · exact Nat.le_trans (knowE_len _ _) (by omega)
  · rcases knowE_mem he with rfl | he
    · exact hkl
    · exact hl.small.2 e he
  · rcases knowE_mem he with rfl | he
    · left; have := l.so.lt z hz; have := ho.size; omega
    · exact .inr ⟨e, he, hz⟩
set_option maxHeartbeats 24000000 in
set_option maxRecDepth 100000 in
theorem rknow_any {w : World} {p : Option Addr} {cap : Nat} {E : List Ev} (hl : ListAt w (.slice p E.length cap) E) (hu : TUp (unE E)) (hEl : E.length < 100000) (x : Tg) {xv : Value} (hx : SoftAt w xv x.p.soft) (hxl : x.p.soft.length ≤ 100000) (hup : ∀ y ∈ x.p.soft, y.tm ≤ 18446744073709551615) (gr now last : Nat) :
    Calls Try.prog 58 #[mV gr now last (.slice p E.length cap), .agg #[.int .i64 (x.tag : Int), .int .u64 (x.p.hard : Int), xv]] w (KnowP w gr now last (normT gr now x) E) := by
  obtain ⟨px, cx, rfl, _⟩ := hx.form
  obtain ⟨i0, hi, hp0⟩ := Option.map_eq_some_iff.1 sfInfo
  have hz0 : i0.zero = some (.agg #[.int .u64 0, .int .u64 0]) := congrArg (·.1) hp0
  have hz1 : i0.size = 2 := congrArg (·.2.1) hp0
  have hz2 : i0.bytes = 16 := congrArg (·.2.2) hp0
  clear hp0
  obtain ⟨j0, hj, hp1⟩ := Option.map_eq_some_iff.1 stInfo
  have hy0 : j0.zero = some (.agg #[.int .i64 0, .int .u64 0, .slice none 0 0]) := congrArg (·.1) hp1
  have hy1 : j0.size = 3 := congrArg (·.2.1) hp1
  have hy2 : j0.bytes = 40 := congrArg (·.2.2) hp1
  clear hp1
  obtain ⟨xt, ⟨ph, ps⟩⟩ := x
  dsimp only at hx hxl hup ⊢
  obtain ⟨lv, hlv⟩ : ∃ lv, lv = Value.slice p E.length cap := ⟨_, rfl⟩
  obtain ⟨xv, hxv⟩ : ∃ xv, xv = Value.slice px ps.length cx := ⟨_, rfl⟩
  have K0 : Hid (Kb w (((w.alloc (.cells #[.int .u64 (gr : Int), .int .u64 (now : Int), .int .u64 (last : Int), .slice p E.length cap] 57)).alloc (.cells #[.int .i64 (xt : Int), .int .u64 (ph : Int), .slice px ps.length cx] 43)).alloc (.cells #[.int .u64 0, .int .u64 0, .int .u64 0, .slice none 0 0] 57)) gr now last (.slice p E.length cap) xt ph (.slice px ps.length cx)) :=
    ⟨((Blk.new _ _ _).alloc _).alloc _, by simpa using (Blk.new (w.alloc (.cells #[.int .u64 (gr : Int), .int .u64 (now : Int), .int .u64 (last : Int), .slice p E.length cap] 57)) 43 #[.int .i64 (xt : Int), .int .u64 (ph : Int), .slice px ps.length cx]).alloc (.cells #[.int .u64 0, .int .u64 0, .int .u64 0, .slice none 0 0] 57),
      by simpa using Blk.new ((w.alloc (.cells #[.int .u64 (gr : Int), .int .u64 (now : Int), .int .u64 (last : Int), .slice p E.length cap] 57)).alloc (.cells #[.int .i64 (xt : Int), .int .u64 (ph : Int), .slice px ps.length cx] 43)) 57 #[.int .u64 0, .int .u64 0, .int .u64 0, .slice none 0 0],
      (((Below.refl w.heap.size w).alloc (Nat.le_refl _) _).alloc (by simp) _).alloc (by simp; omega) _⟩
  clear hlv hxv lv xv
  have HL := Lib.hid hl
  have HU := Lib.hid hu
  have HX := Lib.hid hx
  have HUP := Lib.hid hup
  clear hl hu hx hup
  obtain ⟨n5, hn5⟩ : ∃ n5, n5 = E.length := ⟨_, rfl⟩
  rw [← hn5] at hEl HL K0 ⊢
  have HN5 := Lib.hid hn5
  clear hn5
  obtain ⟨m, hm⟩ : ∃ m, m = ps.length := ⟨_, rfl⟩
  rw [← hm] at hxl HX K0 ⊢
  have HM := Lib.hid hm
  clear hm
  go_enter Try.func58, Try.ntmps58
  go_wp2_with fail
  obtain ⟨W, hW⟩ : ∃ W, ((w.alloc (.cells #[.int .u64 (gr : Int), .int .u64 (now : Int), .int .u64 (last : Int), .slice p n5 cap] 57)).alloc (.cells #[.int .i64 (xt : Int), .int .u64 (ph : Int), .slice px m cx] 43)).alloc (.cells #[.int .u64 0, .int .u64 0, .int .u64 0, .slice none 0 0] 57) = W := ⟨_, rfl⟩
  rw [hW] at K0 ⊢
  have hsz : W.heap.size = w.heap.size + 3 := by rw [← hW]; simp
  clear hW
  have HSZ := Lib.hid hsz
  clear hsz
  go_loopg [5, 6] m (fun r s5 s6 wr => ∃ (i h : Nat) (q : Option Addr) (c k : Nat), r + i = m ∧ s6 = .int .i64 (i : Int) ∧ s5 = .slice q k c ∧ k = (softK gr now (ps.take i)).length ∧ h = hardK gr now ph (ps.take i) ∧ Kb w wr gr now last (.slice p n5 cap) xt h (.slice px m cx) ∧ wr.ownsRow (w.heap.size + 3) 52 2 (.slice q k c) k (softCells (softK gr now (ps.take i))))
  case atStart => exact ⟨0, ph, none, 0, 0, rfl, rfl, rfl, rfl, rfl, K0.out, rfl, .inl ⟨rfl, rfl⟩⟩
  case round => as_aux_lemma =>
    clear K0
    obtain ⟨i, h, q, c, k, hi', rfl, rfl, hk, hh, kb, ow⟩ := hrel
    have HI := Lib.hid hi'
    have hil : i ≤ m := by omega
    have HK := Lib.hid hk
    have HH := Lib.hid hh
    have KB := Lib.hid kb
    have OW := Lib.hid ow
    have x1 := kb.bx.cell 1
    have x2 := kb.bx.cell 2
    have xf := kb.bx.frozen
    have s0 := kb.bs.cell 0
    have s1 := kb.bs.cell 1
    simp only [List.getElem?_toArray, List.getElem?_cons_zero, List.getElem?_cons_succ] at x1 x2 s0 s1
    clear hi' hk hh kb ow
    by_cases hlt : i < m
    · obtain ⟨y, hy⟩ : ∃ y, ps[i]? = some y := ⟨ps[i]'(by rw [← HM.out]; exact hlt), List.getElem?_eq_getElem _⟩
      have hyt := HUP.out y (List.mem_of_getElem? hy)
      obtain ⟨g6, o6, c6, he6, _, _, hcell6⟩ := RowAt.at (HX.out.below KB.out.bel) (by rw [← HM.out]; omega)
      injection he6 with q4 q5 q6
      subst q4
      obtain ⟨e0', e1'⟩ := softCells_get hy
      have f0 := hcell6 _ _ e0'
      have f1 := hcell6 _ _ e1'
      rw [← Nat.add_assoc] at f1
      have HS1 := Lib.hid (softK_next (g := gr) (now := now) hy)
      have HH1 := Lib.hid (hardK_next (g := gr) (now := now) (hd := ph) hy)
      clear hy e0' e1' hcell6 q5 q6
      obtain ⟨ys, yt⟩ := y
      dsimp only at f0 f1 hyt HS1 HH1
      have HOV := Lib.hid (fun W : World => calls_flip (rover_any yt gr now hyt W))
      generalize hov : overB gr now yt = B at *
      clear hov
      cases B
      · as_aux_lemma =>
        have HR : Hid (softCells (softK gr now (ps.take i)) ++ [.int .u64 (ys : Int), .int .u64 (yt : Int)] = softCells (softK gr now (ps.take (i + 1)))) := by
          unfold Hid
          rw [HS1.out, softCells_app]
          rfl
        have HKL : Hid (k + 1 = (softK gr now (ps.take (i + 1))).length) := by
          unfold Hid
          rw [HS1.out, List.length_append, ← HK.out]
          rfl
        have hkm : k ≤ m := by
          rw [HK.out, HM.out]
          exact Nat.le_trans (List.length_filter_le _ _) (List.length_take_le' _ _)
        go_wp2_with fail
        go_quiet ((go_at_call 22; refine Calls.quiet_of_same (HOV.out _)))
        generalize hW2 : wr.drewN nq = W2
        have b2 : Below wr.heap.size wr W2 := by rw [← hW2]; exact below_drewN (Below.refl _ _) _
        have f0 : W2.cell? ⟨g6, o6 + i * 2, none⟩ = some (.int .u64 (ys : Int)) := by rw [← hW2]; exact f0
        have f1 : W2.cell? ⟨g6, o6 + i * 2 + 1, none⟩ = some (.int .u64 (yt : Int)) := by rw [← hW2]; exact f1
        have x2 : W2.cell? ⟨w.heap.size + 1, 2, none⟩ = some (.slice (some ⟨g6, o6, none⟩) m cx) := by rw [← hW2]; exact x2
        have OW2 := Lib.hid (ownsRow_below OW.out b2)
        have KB2 := Lib.hid (KB.out.grow (S := fun _ => False) (Only.of_below b2 _) (fun x hx => hx.elim))
        have hls := KB2.out.br.lt
        clear hW2 b2 OW KB HOV x1 xf s0 s1
        go_wp2_with (at_builtin; refine wpList_append_lying _ rfl _ _ 41 rfl (w.heap.size + 3) 52 i0 (.agg #[.int .u64 0, .int .u64 0]) 2 16 Try.underlying41 hi hz0 hz1 hz2 rfl (by decide) _ _ _ rfl (OW2.out.alloc _) _ 1 [.int .u64 (ys : Int), .int .u64 (yt : Int)] rfl (lies_blk2 (Blk.new _ _ _)) (by intro u hu; simp at hu; rcases hu with rfl | rfl <;> rfl) (by unfold maxLen; omega) (by omega) (by simp; omega) ?_)
        intro v' w3 hown' hg3 hat
        rw [HR.out] at hown'
        obtain ⟨q3, c3, rfl⟩ := own_form hown'
        have hon3 : Only (fun z => (Value.slice q k c).ownBlock = some z) W2 w3 := ((Only.refl (fun z => (Value.slice q k c).ownBlock = some z) W2).alloc _).trans (Only.of_grownR (S := fun z => (Value.slice q k c).ownBlock = some z) hg3 (fun z hz => hz)) (fun z hz => .inl hz)
        have KB3 := Lib.hid (KB2.out.grow hon3 (fun z hz => (OW2.out.lt z hz).1))
        have OW3 := Lib.hid hown'
        have HH2 : Hid (h = hardK gr now ph (ps.take (i + 1))) := by unfold Hid; rw [HH1.out, if_neg (by decide)]; exact HH.out
        clear hown' hg3 hat hon3 KB2 OW2 HR HS1 HH1 x2 f0 f1 hls
        go_wp2_with fail
        go_roundg (gk - 1)
        case measure => have := HI.out; omega
        case rel => exact ⟨i + 1, h, q3, c3, k + 1, by have := HI.out; omega, by go_num, rfl, HKL.out, HH2.out, KB3.out, OW3.out⟩
      · as_aux_lemma =>
        have hkk : Hid (softK gr now (ps.take (i + 1)) = softK gr now (ps.take i)) := by unfold Hid; rw [HS1.out, if_pos rfl, List.append_nil]
        obtain ⟨H2, hH2⟩ : ∃ H2, H2 = max h ys := ⟨_, rfl⟩
        have hmx : max (h : Int) (ys : Int) = (H2 : Int) := by omega
        have HH2 : Hid (H2 = hardK gr now ph (ps.take (i + 1))) := by unfold Hid; rw [HH1.out, if_pos rfl, ← HH.out]; exact hH2
        clear hH2
        go_wp2_with fail
        go_quiet ((go_at_call 22; refine Calls.quiet_of_same (HOV.out _)))
        generalize hW2 : wr.drewN nq = W2
        have b2 : Below wr.heap.size wr W2 := by rw [← hW2]; exact below_drewN (Below.refl _ _) _
        have f0 : W2.cell? ⟨g6, o6 + i * 2, none⟩ = some (.int .u64 (ys : Int)) := by rw [← hW2]; exact f0
        have x1 : W2.cell? ⟨w.heap.size + 1, 1, none⟩ = some (.int .u64 (h : Int)) := by rw [← hW2]; exact x1
        have x2 : W2.cell? ⟨w.heap.size + 1, 2, none⟩ = some (.slice (some ⟨g6, o6, none⟩) m cx) := by rw [← hW2]; exact x2
        have xf : ∀ i, W2.frozen? ⟨w.heap.size + 1, i, none⟩ = false := by rw [← hW2]; exact xf
        have OW2 := Lib.hid (ownsRow_below OW.out b2)
        have KB2 := Lib.hid (KB.out.grow (S := fun _ => False) (Only.of_below b2 _) (fun x hx => hx.elim))
        clear hW2 b2 OW KB HOV s0 s1 f1
        go_wp2_with fail
        go_region
        have KB3 : Hid (Kb w (W2.setCell ⟨w.heap.size + 1, 1, none⟩ (.int .u64 (H2 : Int))).drew gr now last (.slice p n5 cap) xt H2 (.slice (some ⟨g6, o6, none⟩) m cx)) :=
          ⟨KB2.out.bs.far (p := ⟨w.heap.size + 1, 1, none⟩) (by simp) _, (by have := KB2.out.bx.set_ 1 (.int .u64 (H2 : Int)); simp only [List.setIfInBounds_toArray, List.set_cons_succ, List.set_cons_zero] at this; exact this), KB2.out.br.far (p := ⟨w.heap.size + 1, 1, none⟩) (by simp) _, (KB2.out.bel.setCell (p := ⟨w.heap.size + 1, 1, none⟩) (by simp) _).drew⟩
        have OW3 : Hid ((W2.setCell ⟨w.heap.size + 1, 1, none⟩ (.int .u64 (H2 : Int))).drew.ownsRow (w.heap.size + 3) 52 2 (.slice q k c) k (softCells (softK gr now (ps.take i)))) :=
          ownsRow_only OW2.out (((Only.refl (fun x => x = w.heap.size + 1) W2).setCell1 (g := w.heap.size + 1) (.inl rfl) 1 (.int .u64 (H2 : Int))).drew) (fun z hz hs => by have := (OW2.out.lt z hz).1; omega)
        rw [← hkk.out] at OW3 HK
        clear KB2 OW2 x1 x2 xf f0 HS1 HH1 hkk hmx
        go_wp2_with fail
        go_roundg (gk - 1)
        case measure => have := HI.out; omega
        case rel => exact ⟨i + 1, H2, q, c, k, by have := HI.out; omega, by go_num, rfl, HK.out, HH2.out, KB3.out, OW3.out⟩
    · obtain rfl : i = m := by omega
      rw [HM.out, List.take_length] at HK HH OW
      obtain ⟨SK, hSK⟩ : ∃ SK, SK = softK gr now ps := ⟨_, rfl⟩
      rw [← hSK] at HK OW
      have HSK := Lib.hid hSK
      clear hSK
      have hdone : ∃ b1 b2 D : Bool, ((h : Int) == 0) = b1 ∧ ((k : Int) == 0) = b2 ∧ D = (b1 && b2) ∧ D = decide (h = 0 ∧ SK = []) := by
        refine ⟨_, _, _, rfl, rfl, rfl, ?_⟩
        rw [Bool.eq_iff_iff]
        have := HK.out
        simp only [Bool.and_eq_true, beq_iff_eq, decide_eq_true_eq]
        constructor
        · rintro ⟨a1, a2⟩
          exact ⟨by omega, List.eq_nil_of_length_eq_zero (by omega)⟩
        · rintro ⟨a1, a2⟩
          rw [a2] at this
          simp at this
          omega
      obtain ⟨b1, b2, D, hb1, hb2, hD, hD2⟩ := hdone
      have HD2 := Lib.hid hD2
      clear hD2
      have KL0 : Hid (Kl w (wr.setCell ⟨w.heap.size + 1, 2, none⟩ (.slice q k c)) gr now last (.slice p n5 cap) xt h q c k SK none 0 0 []) :=
        ⟨⟨KB.out.bs.far (p := ⟨w.heap.size + 1, 2, none⟩) (by simp) _, (by have := KB.out.bx.set_ 2 (.slice q k c); simp only [List.setIfInBounds_toArray, List.set_cons_succ, List.set_cons_zero] at this; exact this), KB.out.br.far (p := ⟨w.heap.size + 1, 2, none⟩) (by simp) _, KB.out.bel.setCell (p := ⟨w.heap.size + 1, 2, none⟩) (by simp) _⟩,
          ownsRow_only OW.out ((Only.refl (fun x => x = w.heap.size + 1) wr).setCell1 (g := w.heap.size + 1) (.inl rfl) 2 (.slice q k c)) (fun z hz hs => by have := (OW.out.lt z hz).1; omega), ⟨rfl, .inl ⟨rfl, rfl⟩⟩, rfl, fun z hz => by simp [Value.ownBlock]⟩
      go_upto_region 10 with (fail)
      generalize wr.setCell ⟨w.heap.size + 1, 2, none⟩ (.slice q k c) = W4 at *
      clear x1 x2 xf s0 s1 KB OW
      go_cut [8] (fun s8 wx => s8 = .bool D ∧ wx = W4)
      case first => as_aux_lemma =>
        have x1 := KL0.out.kb.bx.cell 1
        simp only [List.getElem?_toArray, List.getElem?_cons_zero, List.getElem?_cons_succ] at x1
        cases b1
        all_goals
          simp only [Bool.false_and, Bool.true_and] at hD
          subst hD
          go_wp2_with fail
          go_meet
          exact ⟨rfl, rfl⟩
      case rest => as_aux_lemma =>
        obtain ⟨rfl, rfl⟩ := hcut
        clear hb1 hb2 hD
        go_wp2_with fail
        go_loopg [7, 8, 9] n5 (fun r s7 s8 s9 wr => ∃ (i : Nat) (q7 : Option Addr) (c7 n7 : Nat) (Eo : List Ev) (dn : Bool), r + i = n5 ∧ s9 = .int .i64 (i : Int) ∧ s7 = .slice q7 n7 c7 ∧ s8 = .bool dn ∧ (Eo, dn) = (E.take i).foldl (kst ⟨⟨xt, ⟨h, SK⟩⟩, .slice q k c⟩) ([], decide (h = 0 ∧ SK = [])) ∧ n7 ≤ i + dn.toNat ∧ Kl w wr gr now last (.slice p n5 cap) xt h q c k SK q7 c7 n7 Eo)
        case atStart => exact ⟨0, none, 0, 0, [], _, rfl, rfl, rfl, rfl, by rw [← HD2.out]; rfl, Nat.zero_le _, KL0.out⟩
        case round => as_aux_lemma =>
          clear KL0 HI
          obtain ⟨i, q7, c7, n7, Eo, dn, hi', rfl, rfl, rfl, hf, hlen, kl⟩ := hrel
          have HI := Lib.hid hi'
          have hil : i ≤ n5 := by omega
          have HF := Lib.hid hf
          have KL := Lib.hid kl
          have hln : n7 ≤ i + 1 := by have := Bool.toNat_le dn; omega
          clear hi' hf kl
          by_cases hlt : i < n5
          · obtain ⟨z, hz⟩ : ∃ z, E[i]? = some z := ⟨E[i]'(by rw [← HN5.out]; exact hlt), List.getElem?_eq_getElem _⟩
            obtain ⟨d0, d1, d2⟩ := evCells_get hz
            have HTK : Hid (E.take (i + 1) = E.take i ++ [z]) := by unfold Hid; rw [List.take_add_one, hz]; rfl
            obtain ⟨pz, cz, hzv, _⟩ := (HL.out.soft z (List.mem_of_getElem? hz)).form
            obtain ⟨⟨zt, ⟨zh, zs⟩⟩, zv⟩ := z
            dsimp only at hzv d0 d1 d2
            subst hzv
            obtain ⟨g9, o9, c9, he9, _, hg9, hc9⟩ := RowAt.at HL.out.row (by rw [← HN5.out]; omega)
            injection he9 with r1 r2 r3
            subst r1
            have t0 := hc9 _ _ d0
            have t1 := hc9 _ _ d1
            have t2 := hc9 _ _ d2
            rw [← Nat.add_assoc] at t1 t2
            have HZ := Lib.hid (fun (w' : World) (hb : Below w.heap.size w w') => And.intro ((hb.cell (p := ⟨g9, o9 + i * 3, none⟩) hg9).trans t0) (And.intro ((hb.cell (p := ⟨g9, o9 + i * 3 + 1, none⟩) hg9).trans t1) ((hb.cell (p := ⟨g9, o9 + i * 3 + 2, none⟩) hg9).trans t2)))
            clear hz hc9 r2 r3 t0 t1 t2 d0 d1 d2
            obtain ⟨z0, z1, z2⟩ := HZ.out _ KL.out.kb.bel
            have s3 := KL.out.kb.bs.cell 3
            have x0 := KL.out.kb.bx.cell 0
            have x1 := KL.out.kb.bx.cell 1
            have x2 := KL.out.kb.bx.cell 2
            simp only [List.getElem?_toArray, List.getElem?_cons_zero, List.getElem?_cons_succ] at s3 x0 x1 x2
            cases dn
            · by_cases hlt2 : xt < zt
              · as_aux_lemma =>
                have HLT := Lib.hid hlt2
                have hcmp : decide ((xt : Int) < (zt : Int)) = true := decide_eq_true (by omega)
                have HNE : Hid (¬ zt = xt) := by unfold Hid; omega
                have hne : ((zt : Int) == (xt : Int)) = false := by simp; omega
                clear hlt2
                go_wp2_with fail
                go_quiet (fail)
                generalize hW5 : wr.drewN nq = W5
                have bW5 : Below wr.heap.size wr W5 := by rw [← hW5]; exact below_drewN (Below.refl _ _) _
                have KL5 := Lib.hid (KL.out.below bW5)
                clear hW5 bW5 z0 z1 z2 s3 x0 x1 x2
                obtain ⟨z0, z1, z2⟩ := HZ.out _ KL5.out.kb.bel
                have s3 := KL5.out.kb.bs.cell 3
                have x0 := KL5.out.kb.bx.cell 0
                have x1 := KL5.out.kb.bx.cell 1
                have x2 := KL5.out.kb.bx.cell 2
                simp only [List.getElem?_toArray, List.getElem?_cons_zero, List.getElem?_cons_succ] at s3 x0 x1 x2
                go_wp2_with (at_builtin; refine wpList_append_lying _ rfl _ _ 48 rfl (w.heap.size + 3) 43 j0 (.agg #[.int .i64 0, .int .u64 0, .slice none 0 0]) 3 40 Try.underlying48 hj hy0 hy1 hy2 rfl (by decide) _ _ _ rfl (KL5.out.oo.alloc _) _ 1 [.int .i64 (xt : Int), .int .u64 (h : Int), .slice q k c] rfl (lies_blk3 (Blk.new _ _ _)) (by intro u hu; simp at hu; rcases hu with rfl | rfl | rfl <;> rfl) (by unfold maxLen; omega) (by omega) (by have := KL5.out.kb.br.lt; simp; omega) ?_)
                intro v' w3 hown' hg3 hat
                obtain ⟨q8, c8, rfl, kl7⟩ := KL5.out.app _ ⟨⟨xt, ⟨h, SK⟩⟩, .slice q k c⟩ hg3 hown' hat
                have KL7 := Lib.hid kl7
                clear hown' hg3 hat kl7 KL5 z0 z1 z2 s3 x0 x1 x2
                obtain ⟨z0, z1, z2⟩ := HZ.out _ KL7.out.kb.bel
                have s3 := KL7.out.kb.bs.cell 3
                have x0 := KL7.out.kb.bx.cell 0
                have x1 := KL7.out.kb.bx.cell 1
                have x2 := KL7.out.kb.bx.cell 2
                simp only [List.getElem?_toArray, List.getElem?_cons_zero, List.getElem?_cons_succ] at s3 x0 x1 x2
                generalize hEo : Eo ++ [(⟨⟨xt, ⟨h, SK⟩⟩, .slice q k c⟩ : Ev)] = Eo2 at *
                have HEO := Lib.hid hEo
                clear hEo
                go_wp2_with fail
                go_quiet (fail)
                generalize hW6 : w3.drewN nq = W6
                have bW6 : Below w3.heap.size w3 W6 := by rw [← hW6]; exact below_drewN (Below.refl _ _) _
                have KL6 := Lib.hid (KL7.out.below bW6)
                clear hW6 bW6 z0 z1 z2 s3 x0 x1 x2
                obtain ⟨z0, z1, z2⟩ := HZ.out _ KL6.out.kb.bel
                have s3 := KL6.out.kb.bs.cell 3
                have x0 := KL6.out.kb.bx.cell 0
                have x1 := KL6.out.kb.bx.cell 1
                have x2 := KL6.out.kb.bx.cell 2
                simp only [List.getElem?_toArray, List.getElem?_cons_zero, List.getElem?_cons_succ] at s3 x0 x1 x2
                go_wp2_with (at_builtin; refine wpList_append_lying _ rfl _ _ 48 rfl (w.heap.size + 3) 43 j0 (.agg #[.int .i64 0, .int .u64 0, .slice none 0 0]) 3 40 Try.underlying48 hj hy0 hy1 hy2 rfl (by decide) _ _ _ rfl (KL6.out.oo.alloc _) _ 1 [.int .i64 (zt : Int), .int .u64 (zh : Int), .slice pz zs.length cz] rfl (lies_blk3 (Blk.new _ _ _)) (by intro u hu; simp at hu; rcases hu with rfl | rfl | rfl <;> rfl) (by unfold maxLen; omega) (by omega) (by have := KL6.out.kb.br.lt; simp; omega) ?_)
                intro v' w3 hown' hg3 hat
                obtain ⟨q8, c8, rfl, kl7⟩ := KL6.out.app _ ⟨⟨zt, ⟨zh, zs⟩⟩, .slice pz zs.length cz⟩ hg3 hown' hat
                have KL7 := Lib.hid kl7
                clear hown' hg3 hat kl7 KL6 z0 z1 z2 s3 x0 x1 x2
                go_wp2_with fail
                go_roundg (gk - 1)
                case measure => have := HI.out; omega
                case rel => exact ⟨i + 1, _, _, _, Eo2 ++ [⟨⟨zt, ⟨zh, zs⟩⟩, .slice pz zs.length cz⟩], true, by have := HI.out; omega, by go_num, rfl, rfl, by rw [HTK.out, List.foldl_append, ← HF.out]; simp [kst, HNE.out, HLT.out, HEO.out], by simp at hlen ⊢; omega, KL7.out⟩
              · as_aux_lemma =>
                have HLT := Lib.hid hlt2
                have hcmp : decide ((xt : Int) < (zt : Int)) = false := decide_eq_false (by omega)
                clear hlt2
                go_wp2_with fail
                go_quiet (fail)
                generalize hW5 : wr.drewN nq = W5
                have bW5 : Below wr.heap.size wr W5 := by rw [← hW5]; exact below_drewN (Below.refl _ _) _
                have KL5 := Lib.hid (KL.out.below bW5)
                clear hW5 bW5 z0 z1 z2 s3 x0 x1 x2
                obtain ⟨z0, z1, z2⟩ := HZ.out _ KL5.out.kb.bel
                have s3 := KL5.out.kb.bs.cell 3
                have x0 := KL5.out.kb.bx.cell 0
                have x1 := KL5.out.kb.bx.cell 1
                have x2 := KL5.out.kb.bx.cell 2
                simp only [List.getElem?_toArray, List.getElem?_cons_zero, List.getElem?_cons_succ] at s3 x0 x1 x2
                by_cases hq : zt = xt
                · as_aux_lemma =>
                  have HQ := Lib.hid hq
                  have hne : ((zt : Int) == (xt : Int)) = true := by rw [hq]; simp
                  clear hq
                  go_wp2_with fail
                  go_quiet (fail)
                  generalize hW6 : W5.drewN nq = W6
                  have bW6 : Below W5.heap.size W5 W6 := by rw [← hW6]; exact below_drewN (Below.refl _ _) _
                  have KL6 := Lib.hid (KL5.out.below bW6)
                  clear hW6 bW6 z0 z1 z2 s3 x0 x1 x2
                  obtain ⟨z0, z1, z2⟩ := HZ.out _ KL6.out.kb.bel
                  have s3 := KL6.out.kb.bs.cell 3
                  have x0 := KL6.out.kb.bx.cell 0
                  have x1 := KL6.out.kb.bx.cell 1
                  have x2 := KL6.out.kb.bx.cell 2
                  simp only [List.getElem?_toArray, List.getElem?_cons_zero, List.getElem?_cons_succ] at s3 x0 x1 x2
                  go_wp2_with fail
                  go_roundg (gk - 1)
                  case measure => have := HI.out; omega
                  case rel => exact ⟨i + 1, _, _, _, Eo, false, by have := HI.out; omega, by go_num, rfl, rfl, by rw [HTK.out, List.foldl_append, ← HF.out]; simp [kst, HQ.out], by simp at hlen ⊢; omega, KL6.out⟩
                · as_aux_lemma =>
                  have HQ := Lib.hid hq
                  have hne : ((zt : Int) == (xt : Int)) = false := by simp; omega
                  clear hq
                  go_wp2_with fail
                  go_quiet (fail)
                  generalize hW6 : W5.drewN nq = W6
                  have bW6 : Below W5.heap.size W5 W6 := by rw [← hW6]; exact below_drewN (Below.refl _ _) _
                  have KL6 := Lib.hid (KL5.out.below bW6)
                  clear hW6 bW6 z0 z1 z2 s3 x0 x1 x2
                  obtain ⟨z0, z1, z2⟩ := HZ.out _ KL6.out.kb.bel
                  have s3 := KL6.out.kb.bs.cell 3
                  have x0 := KL6.out.kb.bx.cell 0
                  have x1 := KL6.out.kb.bx.cell 1
                  have x2 := KL6.out.kb.bx.cell 2
                  simp only [List.getElem?_toArray, List.getElem?_cons_zero, List.getElem?_cons_succ] at s3 x0 x1 x2
                  go_wp2_with (at_builtin; refine wpList_append_lying _ rfl _ _ 48 rfl (w.heap.size + 3) 43 j0 (.agg #[.int .i64 0, .int .u64 0, .slice none 0 0]) 3 40 Try.underlying48 hj hy0 hy1 hy2 rfl (by decide) _ _ _ rfl (KL6.out.oo.alloc _) _ 1 [.int .i64 (zt : Int), .int .u64 (zh : Int), .slice pz zs.length cz] rfl (lies_blk3 (Blk.new _ _ _)) (by intro u hu; simp at hu; rcases hu with rfl | rfl | rfl <;> rfl) (by unfold maxLen; omega) (by omega) (by have := KL6.out.kb.br.lt; simp; omega) ?_)
                  intro v' w3 hown' hg3 hat
                  obtain ⟨q8, c8, rfl, kl7⟩ := KL6.out.app _ ⟨⟨zt, ⟨zh, zs⟩⟩, .slice pz zs.length cz⟩ hg3 hown' hat
                  have KL7 := Lib.hid kl7
                  clear hown' hg3 hat kl7 KL6 z0 z1 z2 s3 x0 x1 x2
                  go_wp2_with fail
                  go_roundg (gk - 1)
                  case measure => have := HI.out; omega
                  case rel => exact ⟨i + 1, _, _, _, Eo ++ [⟨⟨zt, ⟨zh, zs⟩⟩, .slice pz zs.length cz⟩], false, by have := HI.out; omega, by go_num, rfl, rfl, by rw [HTK.out, List.foldl_append, ← HF.out]; simp [kst, HQ.out, HLT.out], by simp at hlen ⊢; omega, KL7.out⟩
            · as_aux_lemma =>
              go_wp2_with fail
              go_quiet (fail)
              generalize hW5 : wr.drewN nq = W5
              have bW5 : Below wr.heap.size wr W5 := by rw [← hW5]; exact below_drewN (Below.refl _ _) _
              have KL5 := Lib.hid (KL.out.below bW5)
              clear hW5 bW5 z0 z1 z2 s3 x0 x1 x2
              obtain ⟨z0, z1, z2⟩ := HZ.out _ KL5.out.kb.bel
              have s3 := KL5.out.kb.bs.cell 3
              have x0 := KL5.out.kb.bx.cell 0
              have x1 := KL5.out.kb.bx.cell 1
              have x2 := KL5.out.kb.bx.cell 2
              simp only [List.getElem?_toArray, List.getElem?_cons_zero, List.getElem?_cons_succ] at s3 x0 x1 x2
              by_cases hq : zt = xt
              · as_aux_lemma =>
                have HQ := Lib.hid hq
                have hne : ((zt : Int) == (xt : Int)) = true := by rw [hq]; simp
                clear hq
                go_wp2_with fail
                go_quiet (fail)
                generalize hW6 : W5.drewN nq = W6
                have bW6 : Below W5.heap.size W5 W6 := by rw [← hW6]; exact below_drewN (Below.refl _ _) _
                have KL6 := Lib.hid (KL5.out.below bW6)
                clear hW6 bW6 z0 z1 z2 s3 x0 x1 x2
                obtain ⟨z0, z1, z2⟩ := HZ.out _ KL6.out.kb.bel
                have s3 := KL6.out.kb.bs.cell 3
                have x0 := KL6.out.kb.bx.cell 0
                have x1 := KL6.out.kb.bx.cell 1
                have x2 := KL6.out.kb.bx.cell 2
                simp only [List.getElem?_toArray, List.getElem?_cons_zero, List.getElem?_cons_succ] at s3 x0 x1 x2
                go_wp2_with fail
                go_roundg (gk - 1)
                case measure => have := HI.out; omega
                case rel => exact ⟨i + 1, _, _, _, Eo, true, by have := HI.out; omega, by go_num, rfl, rfl, by rw [HTK.out, List.foldl_append, ← HF.out]; simp [kst, HQ.out], by simp at hlen ⊢; omega, KL6.out⟩
              · as_aux_lemma =>
                have HQ := Lib.hid hq
                have hne : ((zt : Int) == (xt : Int)) = false := by simp; omega
                clear hq
                go_wp2_with fail
                go_quiet (fail)
                generalize hW6 : W5.drewN nq = W6
                have bW6 : Below W5.heap.size W5 W6 := by rw [← hW6]; exact below_drewN (Below.refl _ _) _
                have KL6 := Lib.hid (KL5.out.below bW6)
                clear hW6 bW6 z0 z1 z2 s3 x0 x1 x2
                obtain ⟨z0, z1, z2⟩ := HZ.out _ KL6.out.kb.bel
                have s3 := KL6.out.kb.bs.cell 3
                have x0 := KL6.out.kb.bx.cell 0
                have x1 := KL6.out.kb.bx.cell 1
                have x2 := KL6.out.kb.bx.cell 2
                simp only [List.getElem?_toArray, List.getElem?_cons_zero, List.getElem?_cons_succ] at s3 x0 x1 x2
                go_wp2_with (at_builtin; refine wpList_append_lying _ rfl _ _ 48 rfl (w.heap.size + 3) 43 j0 (.agg #[.int .i64 0, .int .u64 0, .slice none 0 0]) 3 40 Try.underlying48 hj hy0 hy1 hy2 rfl (by decide) _ _ _ rfl (KL6.out.oo.alloc _) _ 1 [.int .i64 (zt : Int), .int .u64 (zh : Int), .slice pz zs.length cz] rfl (lies_blk3 (Blk.new _ _ _)) (by intro u hu; simp at hu; rcases hu with rfl | rfl | rfl <;> rfl) (by unfold maxLen; omega) (by omega) (by have := KL6.out.kb.br.lt; simp; omega) ?_)
                intro v' w3 hown' hg3 hat
                obtain ⟨q8, c8, rfl, kl7⟩ := KL6.out.app _ ⟨⟨zt, ⟨zh, zs⟩⟩, .slice pz zs.length cz⟩ hg3 hown' hat
                have KL7 := Lib.hid kl7
                clear hown' hg3 hat kl7 KL6 z0 z1 z2 s3 x0 x1 x2
                go_wp2_with fail
                go_roundg (gk - 1)
                case measure => have := HI.out; omega
                case rel => exact ⟨i + 1, _, _, _, Eo ++ [⟨⟨zt, ⟨zh, zs⟩⟩, .slice pz zs.length cz⟩], true, by have := HI.out; omega, by go_num, rfl, rfl, by rw [HTK.out, List.foldl_append, ← HF.out]; simp [kst, HQ.out], by simp at hlen ⊢; omega, KL7.out⟩
          · obtain rfl : i = n5 := by omega
            have hkm5 : k ≤ 100000 := by
              have h1 := HK.out
              have h2 := HSK.out
              have h3 : SK.length ≤ ps.length := by rw [h2]; exact List.length_filter_le _ _
              have h4 := HM.out
              omega
            rw [HN5.out, List.take_length] at HF
            have HKN : Hid (kfin ⟨⟨xt, ⟨h, SK⟩⟩, .slice q k c⟩ (Eo, dn) = knowE ⟨⟨xt, ⟨h, SK⟩⟩, .slice q k c⟩ E) := by
              unfold Hid
              rw [HF.out]
              exact know_fin _ E HU.out
            clear HF
            cases dn
            · as_aux_lemma =>
              have x0 := KL.out.kb.bx.cell 0
              have x1 := KL.out.kb.bx.cell 1
              have x2 := KL.out.kb.bx.cell 2
              have s3 := KL.out.kb.bs.cell 3
              simp only [List.getElem?_toArray, List.getElem?_cons_zero, List.getElem?_cons_succ] at x0 x1 x2 s3
              go_wp2_with (at_builtin; refine wpList_append_lying _ rfl _ _ 48 rfl (w.heap.size + 3) 43 j0 (.agg #[.int .i64 0, .int .u64 0, .slice none 0 0]) 3 40 Try.underlying48 hj hy0 hy1 hy2 rfl (by decide) _ _ _ rfl (KL.out.oo.alloc _) _ 1 [.int .i64 (xt : Int), .int .u64 (h : Int), .slice q k c] rfl (lies_blk3 (Blk.new _ _ _)) (by intro u hu; simp at hu; rcases hu with rfl | rfl | rfl <;> rfl) (by unfold maxLen; omega) (by omega) (by have := KL.out.kb.br.lt; simp; omega) ?_)
              intro v' w3 hown' hg3 hat
              obtain ⟨q8, c8, rfl, kl7⟩ := KL.out.app _ ⟨⟨xt, ⟨h, SK⟩⟩, .slice q k c⟩ hg3 hown' hat
              rw [show Eo ++ [(⟨⟨xt, ⟨h, SK⟩⟩, .slice q k c⟩ : Ev)] = knowE ⟨⟨xt, ⟨h, SK⟩⟩, .slice q k c⟩ E from HKN.out] at kl7
              have KLz := Lib.hid kl7
              clear hown' hg3 hat kl7 KL x0 x1 x2 s3
              have s0 := KLz.out.kb.bs.cell 0
              have s1 := KLz.out.kb.bs.cell 1
              have s2 := KLz.out.kb.bs.cell 2
              have s3 := KLz.out.kb.bs.cell 3
              have sf := KLz.out.kb.bs.frozen
              have r0 := KLz.out.kb.br.cell 0
              have r1 := KLz.out.kb.br.cell 1
              have r2 := KLz.out.kb.br.cell 2
              have r3 := KLz.out.kb.br.cell 3
              have rf := KLz.out.kb.br.frozen
              simp only [List.getElem?_toArray, List.getElem?_cons_zero, List.getElem?_cons_succ] at s0 s1 s2 s3 r0 r1 r2 r3
              go_wp2_with fail
              have zz := (((((show Blk w3 (w.heap.size + 1 + 1) 57 #[.int .u64 0, .int .u64 0, .int .u64 0, .slice none 0 0] from KLz.out.kb.br).far (p := ⟨w.heap.size, 3, none⟩) (by simp; omega) (.slice q8 (n7 + 1) c8)).set_ 0 (.int .u64 (gr : Int))).set_ 1 (.int .u64 (now : Int))).set_ 2 (.int .u64 (last : Int))).set_ 3 (.slice q8 (n7 + 1) c8)
              have e0 := zz.cell 0
              have e1 := zz.cell 1
              have e2 := zz.cell 2
              have e3 := zz.cell 3
              simp only [List.setIfInBounds_toArray, List.set_cons_zero, List.set_cons_succ, List.getElem?_toArray, List.getElem?_cons_zero, List.getElem?_cons_succ] at e0 e1 e2 e3
              have hO := (((((Only.refl (fun x => x = w.heap.size ∨ x = w.heap.size + 2) w3).setCell1 (g := w.heap.size) (.inl (.inl rfl)) 3 (.slice q8 (n7 + 1) c8)).setCell1 (g := w.heap.size + 1 + 1) (.inl (.inr rfl)) 0 (.int .u64 (gr : Int))).setCell1 (g := w.heap.size + 1 + 1) (.inl (.inr rfl)) 1 (.int .u64 (now : Int))).setCell1 (g := w.heap.size + 1 + 1) (.inl (.inr rfl)) 2 (.int .u64 (last : Int))).setCell1 (g := w.heap.size + 1 + 1) (.inl (.inr rfl)) 3 (.slice q8 (n7 + 1) c8)
              exact bodyPost_ret (v := mV gr now last (.slice q8 (n7 + 1) c8)) (by simp [results, Try.results58, go_sem, e0, e1, e2, e3]) rfl (know_done KLz.out HL.out (by rw [← HN5.out]; exact hEl) HK.out hkm5 HH.out HSK.out hO)
            · as_aux_lemma =>
              have KLz : Hid (Kl w wr gr now last (.slice p i cap) xt h q c k SK q7 c7 n7 (knowE ⟨⟨xt, ⟨h, SK⟩⟩, .slice q k c⟩ E)) := by
                have h5 : Eo = knowE ⟨⟨xt, ⟨h, SK⟩⟩, .slice q k c⟩ E := HKN.out
                rw [← h5]
                exact KL.out
              clear KL
              have s0 := KLz.out.kb.bs.cell 0
              have s1 := KLz.out.kb.bs.cell 1
              have s2 := KLz.out.kb.bs.cell 2
              have s3 := KLz.out.kb.bs.cell 3
              have sf := KLz.out.kb.bs.frozen
              have r0 := KLz.out.kb.br.cell 0
              have r1 := KLz.out.kb.br.cell 1
              have r2 := KLz.out.kb.br.cell 2
              have r3 := KLz.out.kb.br.cell 3
              have rf := KLz.out.kb.br.frozen
              simp only [List.getElem?_toArray, List.getElem?_cons_zero, List.getElem?_cons_succ] at s0 s1 s2 s3 r0 r1 r2 r3
              go_wp2_with fail
              have zz := (((((show Blk wr (w.heap.size + 1 + 1) 57 #[.int .u64 0, .int .u64 0, .int .u64 0, .slice none 0 0] from KLz.out.kb.br).far (p := ⟨w.heap.size, 3, none⟩) (by simp; omega) (.slice q7 n7 c7)).set_ 0 (.int .u64 (gr : Int))).set_ 1 (.int .u64 (now : Int))).set_ 2 (.int .u64 (last : Int))).set_ 3 (.slice q7 n7 c7)
              have e0 := zz.cell 0
              have e1 := zz.cell 1
              have e2 := zz.cell 2
              have e3 := zz.cell 3
              simp only [List.setIfInBounds_toArray, List.set_cons_zero, List.set_cons_succ, List.getElem?_toArray, List.getElem?_cons_zero, List.getElem?_cons_succ] at e0 e1 e2 e3
              have hO := (((((Only.refl (fun x => x = w.heap.size ∨ x = w.heap.size + 2) wr).setCell1 (g := w.heap.size) (.inl (.inl rfl)) 3 (.slice q7 n7 c7)).setCell1 (g := w.heap.size + 1 + 1) (.inl (.inr rfl)) 0 (.int .u64 (gr : Int))).setCell1 (g := w.heap.size + 1 + 1) (.inl (.inr rfl)) 1 (.int .u64 (now : Int))).setCell1 (g := w.heap.size + 1 + 1) (.inl (.inr rfl)) 2 (.int .u64 (last : Int))).setCell1 (g := w.heap.size + 1 + 1) (.inl (.inr rfl)) 3 (.slice q7 n7 c7)
              exact bodyPost_ret (v := mV gr now last (.slice q7 n7 c7)) (by simp [results, Try.results58, go_sem, e0, e1, e2, e3]) rfl (know_done KLz.out HL.out (by rw [← HN5.out]; exact hEl) HK.out hkm5 HH.out HSK.out hO)
end Go.Proofs.Ytckdfnlleaifcaa
