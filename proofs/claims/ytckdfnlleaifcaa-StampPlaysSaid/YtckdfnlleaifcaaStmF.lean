/- Soft. -/
import Derived.Test.YtckdfnlleaifcaaStmE
namespace Go.Proofs.Ytckdfnlleaifcaa
set_option linter.unusedVariables false
open Go.RowKit Go.Maps

@[irreducible] def appS (t : Array TypeId) (ty : TypeId) (v : Array Value) : Sem Value := Builtin.append_ t ty v
theorem appS_eq (t : Array TypeId) (ty : TypeId) (v : Array Value) : Builtin.append_ t ty v = appS t ty v := by unfold appS; rfl
attribute [local go_sem ↓] appS_eq
/-- Stamps in which a tag is known, up to date, and may turn. -/
structure Mdl (w0 : World) (O : Nat → Prop) (w : World) (g gr A L1 n t : Nat) (d : List Tg) (k : Nat) (p : Pg) (b n1 : Nat) (own : Nat → Option Nat) (m : List (Nat × Option Nat)) (l1 : List Tg) (v : Value) : Prop where
  sq : Sq w g gr A L1 b n1 own m l1 t k p v
  n1 : n1 ≤ n + 1
  sl : p.soft.length ≤ n
  eq : ∀ p2, advD gr A (insT ⟨t, p2⟩ l1) = insT (normT gr A ⟨t, p2⟩) (advD gr A d)
  ne : ∀ p2, PNe p2 → LNe (insT ⟨t, p2⟩ l1)
  pk : p = knownP t (advD gr A d)
  go : Goes w0 O w (fun x => x = g ∨ x = b ∨ own x ≠ none)
section
variable {w0 w w' : World} {O : Nat → Prop} {g gr A L1 n t : Nat} {d : List Tg} {k : Nat} {p p2 : Pg} {b n1 : Nat} {own : Nat → Option Nat} {m : List (Nat × Option Nat)} {l1 : List Tg} {v v2 : Value}
theorem Goes.below {O' : Nat → Prop} (h : Goes w0 O w O') (hb : Below w.heap.size w w') : Goes w0 O w' O' := ⟨h.only.trans (Only.of_below hb (fun _ => False)) (fun _ h => h.elim), h.new⟩
theorem Goes.trans {O1 O2 : Nat → Prop} (h : Goes w0 O w O1) (k : Goes w O1 w' O2) : Goes w0 O w' O2 := by
  have hs := h.only.size
  refine ⟨h.only.trans k.only (fun z hz => h.new z hz), fun x hx => ?_⟩
  rcases k.new x hx with h1 | h1
  · exact h.new x h1
  · exact .inr (by omega)
theorem Mdl.below (h : Mdl w0 O w g gr A L1 n t d k p b n1 own m l1 v) (hb : Below w.heap.size w w') : Mdl w0 O w' g gr A L1 n t d k p b n1 own m l1 v :=
  ⟨h.sq.below hb, h.n1, h.sl, h.eq, h.ne, h.pk, h.go.below hb⟩
/-- What is known of the tag has turned. -/
theorem Mdl.turn (h : Mdl w0 O w g gr A L1 n t d k p b n1 own m l1 v) (ho : Only (fun x => own x = some t) w w') (hp : PgAt w' (ownN w w' t own) t k p2 v2) (hpk : POk A L1 p2) (hne : PNe p2) (hl2 : p2.soft.length ≤ n + 1) :
    ∃ O', St w' g gr A L1 (n + 1) (insT (normT gr A ⟨t, p2⟩) (advD gr A d)) O' ∧ Goes w0 O w' O' := by
  refine ⟨_, ⟨b, _, m, _, h.sq.turn ho hp hpk h.n1 hl2, h.ne p2 hne, (h.eq p2).symm, fun x => Iff.rfl⟩, h.go.trans ⟨ho.more (fun z hz => .inl (.inr (.inr (by rw [hz]; simp)))), fun x hx => ?_⟩⟩
  rcases hx with hx | hx | hx
  · exact .inl (.inl hx)
  · exact .inl (.inr (.inl hx))
  · rcases ownN_inv hx with h5 | h5
    · exact .inl (.inr (.inr h5))
    · exact .inr h5
theorem Mdl.pok (h : Mdl w0 O w g gr A L1 n t d k p b n1 own m l1 v) : POk A L1 p := h.sq.sy.lok.p _ (getT_mem h.sq.get).1
theorem Mdl.add (h : Mdl w0 O w g gr A L1 n t d k p b n1 own m l1 v) (h1 : 1 ≤ L1) : POk A L1 ⟨p.hard, addS L1 A p.soft⟩ ∧ PNe ⟨p.hard, addS L1 A p.soft⟩ ∧ (addS L1 A p.soft).length ≤ n + 1 := by
  have hp := h.pok
  refine ⟨⟨addS_up hp.up hp.tm, hp.hard, fun x hx => ?_, fun x hx => ?_⟩, .inr (addS_ne _ _ _), Nat.le_trans (addS_len _ _ _) (by have := h.sl; omega)⟩
  · rcases addS_mem hx with h2 | rfl
    · exact hp.st x h2
    · exact ⟨h1, Nat.le_refl _⟩
  · rcases addS_mem hx with h2 | rfl
    · exact hp.tm x h2
    · exact Nat.le_refl _
end
theorem addS_nil (n now : Nat) : addS n now [] = [⟨n, now⟩] := rfl
theorem addS_last {n now : Nat} (ys : List Sft) (y : Sft) : addS n now (ys ++ [y]) = if y.tm = now then ys ++ [⟨n, now⟩] else (ys ++ [y]) ++ [⟨n, now⟩] := by
  unfold addS
  rw [List.getLast?_concat]
  dsimp only
  rw [List.dropLast_concat]
theorem softCells_set (ys : List Sft) (y : Sft) (a b : Nat) : ((softCells (ys ++ [y])).set (ys.length * 2) (.int .u64 (a : Int))).set (ys.length * 2 + 1) (.int .u64 (b : Int)) = softCells (ys ++ [⟨a, b⟩]) := by
  rw [softCells_app, softCells_app]
  have hl := softCells_len ys
  rw [List.set_append_right _ _ (by omega), hl, Nat.sub_self, List.set_append_right _ _ (by omega), hl, Nat.add_sub_cancel_left]
  rfl
/-- What fresh returns, in one word. -/
def FrA (w : World) (gr now : Nat) (own : Nat → Option Nat) (m : List (Nat × Option Nat)) (l : List Tg) (t : Nat) (e : Ending) (w' : World) : Prop :=
  ∃ P, e = .returned (.pointer P) ∧ ((P = none ∧ getT t l = none ∧ w = w') ∨ ∃ k v x, P = some ⟨k, 0, none⟩ ∧ getT t l = some x ∧ mget none m t = some k ∧ PgAt w' own t k (normP gr now x.p) v ∧ Only (fun z => own z = some t) w w')
theorem fresh_any {w : World} {g gr now last b n : Nat} {own : Nat → Option Nat} {m : List (Nat × Option Nat)} {l : List Tg} (h : Sy w g gr now last b n own m l) (t : Nat) (ht : t < 65536) (hn : n ≤ 100000) :
    Calls Try.prog 40 #[.pointer (some ⟨g, 0, none⟩), .int .i64 (t : Int)] w (FrA w gr now own m l t) := by
  cases hx : getT t l with
  | none => exact (fresh_none h t ht hx).mono fun e w' ⟨h1, h2⟩ => ⟨none, h1, .inl ⟨rfl, hx, h2⟩⟩
  | some x => exact (fresh_some h t ht hx hn).mono fun e w' ⟨k, v, h1, h2, h3, h4⟩ => ⟨_, h1, .inr ⟨k, v, x, rfl, hx, h2, h3, h4⟩⟩
theorem Only.of_grownR {S : Nat → Prop} {w w' : World} {row : Option Nat} (h : w.grownBy w' row) (hr : ∀ g, row = some g → S g) : Only S w w' :=
  ⟨h.os, h.tape, h.output, h.size, fun i hi hn => h.block i hi (fun e => hn (hr i e.symm))⟩
theorem soft_fin {W W2 w5 : World} {own1 : Nat → Option Nat} {t k ph L1 A : Nat} {s : List Sft} {v v5 : Value} {o : Obj} (hol : ∀ x t, own1 x = some t → x < W.heap.size) (hWd : Below W.heap.size W W2) (hKA : PgAt (W2.drew.alloc o) own1 t k ⟨ph, s⟩ v) (hK5 : Blk w5 k 80 #[.int .u64 (ph : Int), v])
    (hO5 : Mid w5 2 v5 (s.length + 1) (softCells s ++ [.int .u64 (L1 : Int), .int .u64 (A : Int)])) (hG5 : (W2.drew.alloc o).grownBy w5 v.ownBlock) (hV5 : v5.ownBlock = v.ownBlock ∨ ∃ k, v5.ownBlock = some k ∧ (W2.drew.alloc o).heap.size ≤ k) (hkl : k < W2.heap.size) :
    Only (fun x => own1 x = some t) W (w5.setCell ⟨k, 1, none⟩ v5) ∧ PgAt (w5.setCell ⟨k, 1, none⟩ v5) (ownN W (w5.setCell ⟨k, 1, none⟩ v5) t own1) t k ⟨ph, s ++ [⟨L1, A⟩]⟩ v5 := by
  have hsz : W2.heap.size + 1 = (W2.drew.alloc o).heap.size := by simp
  have hW2 := hWd.size
  have hlt := fun z hz => hO5.lt (g := z) hz
  have hne : v5.ownBlock ≠ some k := fun e => by
    rcases hV5 with h1 | ⟨k', h1, h2⟩
    · exact (hKA.ownv k (h1 ▸ e)).2 rfl
    · rw [h1] at e
      have := Option.some.inj e
      omega
  have hrow : Mid w5 2 v5 (s ++ [(⟨L1, A⟩ : Sft)]).length (softCells (s ++ [⟨L1, A⟩])) := by
    rw [List.length_append, softCells_app]
    exact hO5
  have hfs : (w5.setCell ⟨k, 1, none⟩ v5).heap.size = w5.heap.size := by simp
  refine ⟨?_, ⟨by simpa using hK5.set_ 1 v5, hrow.only ((Only.refl (fun x => x = k) w5).setCell1 (g := k) (.inl rfl) 1 v5) (fun z hz e => hne (by rw [hz, e])), ownN_old hol hKA.ownk, fun z hz => ⟨?_, fun e => hne (by rw [hz, e])⟩⟩⟩
  · refine (((Only.of_below hWd (fun x => own1 x = some t)).trans (((Only.refl (fun x => own1 x = some t) W2).drew).alloc o) (fun z hz => .inl hz)).trans (Only.of_grownR (S := fun x => own1 x = some t) hG5 (fun z hz => (hKA.ownv z hz).1)) (fun z hz => .inl hz)).setCell1 (g := k) (.inl hKA.ownk) 1 v5
  · rcases hV5 with h1 | ⟨k', h1, h2⟩
    · exact ownN_old hol (hKA.ownv z (h1 ▸ hz)).1
    · rw [h1] at hz
      obtain rfl := Option.some.inj hz
      exact ownN_new (by omega) (by rw [hfs]; exact hlt _ h1)
theorem soft_set {W W2 : World} {own1 : Nat → Option Nat} {t k ph L1 A gs o cap : Nat} {s ys : List Sft} {y : Sft} (hol : ∀ x t, own1 x = some t → x < W.heap.size) (hWd : Below W.heap.size W W2) (hp : PgAt W2 own1 t k ⟨ph, s⟩ (.slice (some ⟨gs, o, none⟩) s.length cap)) (hs : s = ys ++ [y]) :
    Only (fun x => own1 x = some t) W ((W2.drew.setCell ⟨gs, o + ys.length * 2, none⟩ (.int .u64 (L1 : Int))).setCell ⟨gs, o + ys.length * 2 + 1, none⟩ (.int .u64 (A : Int))) ∧
    PgAt ((W2.drew.setCell ⟨gs, o + ys.length * 2, none⟩ (.int .u64 (L1 : Int))).setCell ⟨gs, o + ys.length * 2 + 1, none⟩ (.int .u64 (A : Int))) (ownN W ((W2.drew.setCell ⟨gs, o + ys.length * 2, none⟩ (.int .u64 (L1 : Int))).setCell ⟨gs, o + ys.length * 2 + 1, none⟩ (.int .u64 (A : Int))) t own1) t k ⟨ph, ys ++ [⟨L1, A⟩]⟩ (.slice (some ⟨gs, o, none⟩) s.length cap) := by
  obtain ⟨hg1, hg2⟩ := hp.ownv gs rfl
  have hlen : (ys ++ [(⟨L1, A⟩ : Sft)]).length = s.length := by rw [hs]; simp
  have hrow : Mid ((W2.drew.setCell ⟨gs, o + ys.length * 2, none⟩ (.int .u64 (L1 : Int))).setCell ⟨gs, o + ys.length * 2 + 1, none⟩ (.int .u64 (A : Int))) 2 (.slice (some ⟨gs, o, none⟩) s.length cap) (ys ++ [(⟨L1, A⟩ : Sft)]).length (softCells (ys ++ [⟨L1, A⟩])) := by
    have h0 : Mid W2.drew 2 (.slice (some ⟨gs, o, none⟩) s.length cap) s.length (softCells s) := hp.row.below (Below.refl _ _).drew
    have h1 := (h0.set (ys.length * 2) (.int .u64 (L1 : Int))).set (ys.length * 2 + 1) (.int .u64 (A : Int))
    rw [← Nat.add_assoc] at h1
    have e : ((softCells s).set (ys.length * 2) (.int .u64 (L1 : Int))).set (ys.length * 2 + 1) (.int .u64 (A : Int)) = softCells (ys ++ [⟨L1, A⟩]) := by rw [hs]; exact softCells_set ys y L1 A
    rw [e] at h1
    rw [hlen]
    exact h1
  refine ⟨?_, ⟨Blk.far (Blk.far (hp.blk.drewN 1) (fun e => hg2 e.symm) _) (fun e => hg2 e.symm) _, hrow, ownN_old hol hp.ownk, fun z hz => ⟨ownN_old hol (hp.ownv z hz).1, (hp.ownv z hz).2⟩⟩⟩
  exact (((Only.of_below hWd (fun x => own1 x = some t)).drew).setCell1 (g := gs) (.inl hg1) _ _).setCell1 (g := gs) (.inl hg1) _ _
def SoftP (w : World) (O : Nat → Prop) (g gr A L1 n t : Nat) (d : List Tg) (e : Ending) (w' : World) : Prop :=
  e = .returned (.tuple #[.int .u64 (L1 : Int), .int .i64 0]) ∧ ∃ O', St w' g gr A L1 (n + 1) (softD gr A L1 t d) O' ∧ Goes w O w' O'
set_option maxHeartbeats 4000000 in
set_option maxRecDepth 100000 in
theorem soft_ok {w : World} {g gr now last n : Nat} {d : List Tg} {O : Nat → Prop} (h : St w g gr now last n d O) (t : Nat) (ht : t < 65536) (hl : last < 18446744073709551615) (a : Nat) (ha : a ≤ 18446744073709551615) (hn : n ≤ 100000) :
    Calls Try.prog 26 #[.pointer (some ⟨g, 0, none⟩), .int .i64 (t : Int), .int .u64 (a : Int)] w (SoftP w O g gr (max now a) (last + 1) n t d) := by
  obtain ⟨b, own, m, l, h1, h2, rfl, h4⟩ := h
  have hT : tagB (t : Int) = true := by unfold tagB; simp; omega
  have HC := Lib.hid (check_any h1.bk (t : Int))
  rw [hT, if_pos rfl] at HC
  have HN := Lib.hid (next_ok h1 hl a ha)
  have had : now ≤ max now a := by omega
  obtain ⟨L1, hL1⟩ : ∃ L1, L1 = last + 1 := ⟨_, rfl⟩
  have hL2 : 1 ≤ L1 := by omega
  rw [← hL1] at HN ⊢
  generalize max now a = A at *
  have hsd : softD gr A L1 t (advD gr now l) = insT (normT gr A ⟨t, ⟨(knownP t (advD gr A l)).hard, addS L1 A (knownP t (advD gr A l)).soft⟩⟩) (advD gr A l) := by
    unfold softD
    rw [advD_twice had]
  have HSD := Lib.hid hsd
  have H2 := Lib.hid h2
  have H4 := Lib.hid h4
  have hlk := Lib.hid h1.lok
  clear hT h1 hL1 h2 h4 hsd hl
  go_enter Try.func26, Try.ntmps26
  go_wp2_with (go_at_call 39; refine HC.out.mono ?_; rintro e w1 ⟨rfl, rfl⟩)
  refine HN.out.mono ?_
  rintro e w1 ⟨rfl, q1, o1⟩
  have HGO : Hid (Goes w O w1 (fun x => x = g ∨ x = b ∨ own x ≠ none)) := ⟨o1.more (fun z hz => .inl ((H4.out z).2 (.inl hz))), fun x hx => .inl ((H4.out x).2 hx)⟩
  have Q1 := Lib.hid q1
  have HF := Lib.hid (fresh_any q1 t ht hn)
  clear HC HN q1 o1
  go_wp2_with fail
  refine HF.out.mono ?_
  rintro e w2 ⟨P, rfl, hP⟩
  have HP := Lib.hid hP
  clear hP HF
  go_upto_if 33 with (fail)
  go_cut [11] (fun s11 wx => ∃ k p b n1 own m l1 v, s11 = .pointer (some ⟨k, 0, none⟩) ∧ Mdl w O wx g gr A L1 n t l k p b n1 own m l1 v)
  case first => as_aux_lemma =>
    rcases HP.out with ⟨rfl, hx, rfl⟩ | ⟨k, v, x, rfl, hx, hk, pg, o2⟩
    · clear HP
      have hm1 := Lib.hid (Q1.out.mp.kept (row := none) (World.grownBy_alloc w1 (.cells #[.int .u64 0, .slice none 0 0] 80) none) (by simp))
      obtain ⟨c0, c1, c2, c3⟩ := (Q1.out.below ((Below.refl w1.heap.size w1).alloc (Nat.le_refl _) (.cells #[.int .u64 0, .slice none 0 0] 80))).cells
      have hb := Lib.hid Q1.out.mp.lt
      have HX := Lib.hid hx
      clear hx
      go_wp2_with (at_mapUpdate; refine wpList_update_v (val := ptrV) (q := .i64) rfl _ _ _ 58 77 rfl Try.underlying3 Try.underlying58 rfl hm1.out (by unfold maxLen; omega) t (wf_i64 (by omega)) (some w1.heap.size) rfl (by simp [Act.eval, ptrV]) trivial ?_; intro w3 m3 g3)
      have q1 := Q1.out
      have hk2 : Blk w3 w1.heap.size 80 #[.int .u64 0, .slice none 0 0] := Blk.grown (Blk.new w1 _ _) g3 (by have := hb.out; simp; omega)
      have hO1 : Only (fun x => x = b ∨ own x = some t) w1 w3 := ((Only.refl (fun x => x = b ∨ own x = some t) w1).alloc _).trans (Only.of_grown (S := fun x => x = b ∨ own x = some t) g3 (.inl rfl)) (fun z hz => .inl hz)
      have hsz : w1.heap.size < w3.heap.size := hk2.lt
      have hP : PgAt w3 (ownN w1 w3 t own) t w1.heap.size ⟨0, []⟩ (.slice none 0 0) := ⟨hk2, Mid.nil w3 2, ownN_new (Nat.le_refl _) hsz, fun z hz => by simp [Value.ownBlock] at hz⟩
      have hap := q1.mp.apart Try.underlying3
      have hput := q1.put (n' := n + 1) hO1 m3 (fun t' ht' => mget_put_other hap ht' _) (mget_put_same hap _ _) (mput_keys t _ m (q1.mp.sorted Try.underlying3)) hP ⟨List.Pairwise.nil, Nat.zero_le _, (fun x hx => by cases hx), (fun x hx => by cases hx)⟩ ht (Nat.le_succ n) (Nat.le_trans (insT_len _ _) (by have := q1.ln.1; omega)) (by simp)
      have HM : Hid (Mdl w O w3 g gr A L1 n t l w1.heap.size ⟨0, []⟩ b (n + 1) (ownN w1 w3 t own) (mput m t (some w1.heap.size)) (insT ⟨t, ⟨0, []⟩⟩ l) (.slice none 0 0)) := by
        refine ⟨⟨hput, getT_ins_same ⟨t, ⟨0, []⟩⟩ q1.lok.up, mget_put_same hap _ _, hP⟩, Nat.le_refl _, Nat.zero_le _, fun p2 => by rw [insT_twice ⟨t, p2⟩ ⟨t, ⟨0, []⟩⟩ rfl, ins_adv], fun p2 hp => by rw [insT_twice ⟨t, p2⟩ ⟨t, ⟨0, []⟩⟩ rfl]; exact H2.out.ins hp, ?_, HGO.out.trans ⟨hO1.more (fun z hz => .inl (by rcases hz with hz | hz; exact .inr (.inl hz); exact .inr (.inr (by rw [hz]; simp)))), fun x hx => ?_⟩⟩
        · rw [known_get, HX.out]
        · rcases hx with hx | hx | hx
          · exact .inl (.inl hx)
          · exact .inl (.inr (.inl hx))
          · rcases ownN_inv hx with h5 | h5
            · exact .inl (.inr (.inr h5))
            · exact .inr h5
      clear hput hP hO1 hk2 hap q1 m3 g3
      go_wp2_with fail
      go_meet
      exact ⟨_, _, _, _, _, _, _, _, rfl, HM.out⟩
    · clear HP
      have q1 := Q1.out
      obtain ⟨hx1, hx2⟩ := getT_mem hx
      have hln := q1.ln.2 x hx1
      have HM : Hid (Mdl w O w2 g gr A L1 n t l k (normP gr A x.p) b n own m (nrm gr A t l) v) := by
        have hins : ∀ p2, insT ⟨t, p2⟩ (nrm gr A t l) = insT ⟨t, p2⟩ l := fun p2 => insT_nrm (nrm_tag gr A t) ⟨t, p2⟩ (fun y hy => if_neg hy) l q1.lok.up
        refine ⟨⟨q1.nrm o2 hx hk pg, ?_, hk, pg⟩, Nat.le_succ n, Nat.le_trans (List.length_filter_le _ _) hln, fun p2 => by rw [hins, ins_adv], fun p2 hp => by rw [hins]; exact H2.out.ins hp, ?_, HGO.out.trans ⟨o2.more (fun z hz => .inl (.inr (.inr (by rw [hz]; simp)))), fun x hx => .inl hx⟩⟩
        · rw [nrm_get hx]
          unfold normT
          rw [hx2]
        · rw [known_get, hx]
      clear q1 hx hk pg o2 hx1 hx2 hln
      go_wp2_with fail
      go_meet
      exact ⟨_, _, _, _, _, _, _, _, rfl, HM.out⟩
  case rest => as_aux_lemma =>
    clear HP HGO Q1 H2 H4 hlk
    obtain ⟨k, p, b1, n1, own1, m1, l1, v, rfl, hM⟩ := hcut
    obtain ⟨ph, s⟩ := p
    obtain ⟨pp, cap, hv, hc1, hc2⟩ := hM.sq.pg.row.form
    subst hv
    dsimp only at hc1
    have hM2 := hM.below ((Below.refl wc.heap.size wc).alloc (Nat.le_refl _) (.cells #[.int .u64 (L1 : Int), .int .u64 (A : Int)] 52))
    obtain ⟨c0, c1, c2, c3⟩ := hM.sq.sy.cells
    obtain ⟨e0, e1, e2, e3⟩ := hM2.sq.sy.cells
    have k1 := hM2.sq.pg.blk.cell 1
    dsimp only at k1
    have hsl := hM.sl
    dsimp only at hsl
    have HM := Lib.hid hM
    have HM2 := Lib.hid hM2
    clear hM hM2
    have HZ := Lib.hid (Blk.new wc 52 #[.int .u64 (L1 : Int), .int .u64 (A : Int)])
    have HWL := Lib.hid (Below.refl wc.heap.size wc)
    go_wp2_with fail
    clear c0 c1 c2 c3
    generalize hW : wc.alloc (.cells #[.int .u64 (L1 : Int), .int .u64 (A : Int)] 52) = W at *
    generalize hzz : wc.heap.size = z at *
    have HM := HM2
    clear HM2 hW hzz HWL
    have HFIN := Lib.hid (fun (w' : World) (ho : Only (fun x => own1 x = some t) W w') (v2 : Value) (hp : PgAt w' (ownN W w' t own1) t k ⟨ph, addS L1 A s⟩ v2) =>
      (by
        obtain ⟨g1, g2, g3⟩ := HM.out.add hL2
        have h5 := HM.out.turn ho hp g1 g2 g3
        rw [HSD.out, ← HM.out.pk]
        exact h5 : ∃ O', St w' g gr A L1 (n + 1) (softD gr A L1 t (advD gr now l)) O' ∧ Goes w O w' O'))
    clear HSD
    have z0 := HZ.out.cell 0
    have z1 := HZ.out.cell 1
    have hkz : k ≠ z := fun e => by
      have h1 := HM.out.sq.pg.blk
      rw [e] at h1
      have h2 := h1.symm.trans HZ.out
      simp at h2
    have hlb := hsl
    have HSL := Lib.hid hsl
    by_cases hnil : s.length = 0
    · have hg : decide (0 < s.length) = false := decide_eq_false (by omega)
      have HAD : Hid (addS L1 A s = s ++ [⟨L1, A⟩]) := by
        have : s = [] := List.eq_nil_of_length_eq_zero hnil
        subst this
        exact addS_nil L1 A
      clear hnil
      go_quiet (fail)
      go_wp2_with fail
      have HAD2 := HAD.out
      rw [HAD2] at HFIN
      clear HAD HAD2
      obtain ⟨i0, hi, hp0⟩ := Option.map_eq_some_iff.1 sfInfo
      have hz0 : i0.zero = some (.agg #[.int .u64 0, .int .u64 0]) := congrArg (·.1) hp0
      have hz1 : i0.size = 2 := congrArg (·.2.1) hp0
      have hz2 : i0.bytes = 16 := congrArg (·.2.2) hp0
      clear hp0
      have hMd := HM.out.below (below_drewN (Below.refl W.heap.size W) nq)
      have hZd := HZ.out.drewN nq
      have hWd : Below W.heap.size W (W.drewN nq) := below_drewN (Below.refl W.heap.size W) nq
      generalize W.drewN nq = W2 at hMd hZd hWd ⊢
      have HMD := Lib.hid hMd
      have kA := (hMd.below (((Below.refl W2.heap.size W2).drew).alloc (Nat.le_refl _) (.cells #[.int .u64 (L1 : Int), .int .u64 (A : Int)] 52))).sq.pg
      have kB : (W2.alloc (.cells #[.int .u64 (L1 : Int), .int .u64 (A : Int)] 52)).drew.cell? ⟨k, 1, none⟩ = some (.slice pp s.length cap) := kA.blk.cell 1
      have kC : W2.drew.cell? ⟨k, 1, none⟩ = some (.slice pp s.length cap) := hMd.sq.pg.blk.cell 1
      have zA : W2.drew.cell? ⟨z, 0, none⟩ = some (.int .u64 (L1 : Int)) := hZd.cell 0
      have zB : W2.drew.cell? ⟨z, 1, none⟩ = some (.int .u64 (A : Int)) := hZd.cell 1
      obtain ⟨v5, w5, hrun, o5, g5, hv5⟩ := kA.row.append (P := Try.prog) 41 41 52 i0 (.agg #[.int .u64 0, .int .u64 0]) 16 Try.underlying41 hi hz0 hz1 hz2 rfl (by decide) ⟨W2.drew.heap.size, 0, none⟩ 1 [.int .u64 (L1 : Int), .int .u64 (A : Int)] rfl (fun j u hj => by rw [addr_add, Nat.zero_add]; rw [(Blk.new W2.drew 52 #[.int .u64 (L1 : Int), .int .u64 (A : Int)]).cell j]; simpa using hj) (by intro u hu; simp at hu; rcases hu with rfl | rfl <;> rfl) (by show s.length + 1 ≤ maxLen; unfold maxLen; omega) (by show (s.length + 1) * 16 ≤ _; omega)
      obtain ⟨p5, c5, rfl, _, _⟩ := o5.form
      dsimp only at hrun o5 g5 hv5
      rw [appS_eq] at hrun
      have hrun2 : (appS #[41, 41] 41 #[.slice pp s.length cap, .slice (some ⟨W2.heap.size, 0, none⟩) 1 1]).run Try.prog (W2.alloc (.cells #[.int .u64 (L1 : Int), .int .u64 (A : Int)] 52)).drew = .ok (.slice p5 (s.length + 1) c5) w5 := hrun
      have hko : (Value.slice pp s.length cap).ownBlock ≠ some k := fun e => (kA.ownv k e).2 rfl
      have hkl := hMd.sq.pg.blk.lt
      have hzl := hZd.lt
      have hkz2 : W2.heap.size ≠ k := by omega
      have hzz2 : W2.heap.size ≠ z := by omega
      have hk5 : Blk w5 k 80 #[.int .u64 (ph : Int), .slice pp s.length cap] := Blk.grown kA.blk g5 (fun e => hko e.symm)
      have f5 := hk5.frozen 1
      have e5 := hk5.cell 1
      have HK5 := Lib.hid hk5
      have O5 := Lib.hid o5
      have G5 := Lib.hid g5
      have HV5 := Lib.hid hv5
      have HKA := Lib.hid kA
      have HKO := Lib.hid hko
      clear hrun k1 z0 z1 e0 e1 e2 e3 hg hMd hZd hk5 o5 g5 hv5 kA hko
      go_region
      go_wp2_with fail
      go_ret2
      obtain ⟨f1, f2⟩ := soft_fin HM.out.sq.sy.ol hWd HKA.out HK5.out O5.out G5.out HV5.out hkl
      exact ⟨rfl, HFIN.out _ f1 _ f2⟩
    · have hg : decide (0 < s.length) = true := decide_eq_true (by omega)
      obtain ⟨ys, y, hys⟩ : ∃ ys y, s = ys ++ [y] := by
        rcases List.eq_nil_or_concat s with hs | ⟨ys, y, hs⟩
        · exact absurd (by rw [hs]; rfl) hnil
        · exact ⟨ys, y, by rw [hs, List.concat_eq_append]⟩
      have hyl : s.length = ys.length + 1 := by rw [hys]; simp
      have hget : s[ys.length]? = some y := by rw [hys]; simp
      obtain ⟨gs, o, cap', he, _, hgl, hcell, hfz⟩ := HM.out.sq.pg.row.at (by show 0 < s.length; omega)
      injection he with he1 he2 he3
      subst he1 he3
      obtain ⟨d0, d1⟩ := softCells_get hget
      have f0 := hcell _ _ d0
      have f1 := hcell _ _ d1
      rw [← Nat.add_assoc] at f1
      have hfy0 := hfz (ys.length * 2) (by show ys.length * 2 < s.length * 2; omega)
      have hfy1 := hfz (ys.length * 2 + 1) (by show ys.length * 2 + 1 < s.length * 2; omega)
      rw [← Nat.add_assoc] at hfy1
      have hi1 : (s.length : Int) - 1 = (ys.length : Int) := by omega
      have hi2 : ys.length < s.length := by omega
      have HYS := Lib.hid hys
      clear he2 d0 d1 hcell hfz hget hys hnil
      by_cases hyA : y.tm = A
      · have hq : ((y.tm : Int) == (A : Int)) = true := by rw [hyA]; simp
        have HYA := Lib.hid hyA
        have HYL := Lib.hid hyl
        clear hyA hyl
        go_quiet (fail)
        go_wp2_with fail
        have hMd := HM.out.below (below_drewN (Below.refl W.heap.size W) nq)
        have hZd := HZ.out.drewN nq
        have hWd : Below W.heap.size W (W.drewN nq) := below_drewN (Below.refl W.heap.size W) nq
        have j1 : (W.drewN nq).cell? ⟨k, 1, none⟩ = some (.slice (some ⟨gs, o, none⟩) s.length cap) := hMd.sq.pg.blk.cell 1
        have jf0 : (W.drewN nq).frozen? ⟨gs, o + ys.length * 2, none⟩ = false := hfy0
        have jf1 : (W.drewN nq).frozen? ⟨gs, o + ys.length * 2 + 1, none⟩ = false := hfy1
        have jz0 := hZd.cell 0
        have jz1 := hZd.cell 1
        have jc0 : (W.drewN nq).cell? ⟨gs, o + ys.length * 2, none⟩ = some (.int .u64 (y.st : Int)) := f0
        have jc1 : (W.drewN nq).cell? ⟨gs, o + ys.length * 2 + 1, none⟩ = some (.int .u64 (y.tm : Int)) := f1
        have hwr : IntKind.i64.wrap (ys.length : Int) = (ys.length : Int) := IntWalk.i64_in _ (by omega)
        generalize W.drewN nq = W2 at hMd hZd hWd j1 jf0 jf1 jz0 jz1 jc0 jc1 ⊢
        have HMD := Lib.hid hMd
        clear k1 z0 z1 e0 e1 e2 e3 hg hMd hZd f0 f1 hfy0 hfy1 hq hgl
        go_still_tail 8, (by kernel_rfl)
        change wpList _ _ _ _ _ W2.drew
        go_wp2_with fail
        go_ret2
        obtain ⟨f1, f2⟩ := soft_set (L1 := L1) (A := A) HM.out.sq.sy.ol hWd HMD.out.sq.pg HYS.out
        have hadd : addS L1 A s = ys ++ [⟨L1, A⟩] := by rw [HYS.out, addS_last, if_pos HYA.out]
        exact ⟨rfl, HFIN.out _ f1 _ (by rw [hadd]; exact f2)⟩
      · have hq : ((y.tm : Int) == (A : Int)) = false := by rw [beq_eq_false_iff_ne]; omega
        have HAD : Hid (addS L1 A s = s ++ [⟨L1, A⟩]) := by
          unfold Hid
          rw [HYS.out, addS_last, if_neg hyA]
        clear hyA hyl
        go_quiet (fail)
        go_wp2_with fail
        clear f0 f1 hfy0 hfy1 hi1 hi2 hgl hq
        have HAD2 := HAD.out
        rw [HAD2] at HFIN
        clear HAD HAD2
        obtain ⟨i0, hi, hp0⟩ := Option.map_eq_some_iff.1 sfInfo
        have hz0 : i0.zero = some (.agg #[.int .u64 0, .int .u64 0]) := congrArg (·.1) hp0
        have hz1 : i0.size = 2 := congrArg (·.2.1) hp0
        have hz2 : i0.bytes = 16 := congrArg (·.2.2) hp0
        clear hp0
        have hMd := HM.out.below (below_drewN (Below.refl W.heap.size W) nq)
        have hZd := HZ.out.drewN nq
        have hWd : Below W.heap.size W (W.drewN nq) := below_drewN (Below.refl W.heap.size W) nq
        generalize W.drewN nq = W2 at hMd hZd hWd ⊢
        have HMD := Lib.hid hMd
        have kA := (hMd.below (((Below.refl W2.heap.size W2).drew).alloc (Nat.le_refl _) (.cells #[.int .u64 (L1 : Int), .int .u64 (A : Int)] 52))).sq.pg
        have kB : (W2.alloc (.cells #[.int .u64 (L1 : Int), .int .u64 (A : Int)] 52)).drew.cell? ⟨k, 1, none⟩ = some (.slice (some ⟨gs, o, none⟩) s.length cap) := kA.blk.cell 1
        have kC : W2.drew.cell? ⟨k, 1, none⟩ = some (.slice (some ⟨gs, o, none⟩) s.length cap) := hMd.sq.pg.blk.cell 1
        have zA : W2.drew.cell? ⟨z, 0, none⟩ = some (.int .u64 (L1 : Int)) := hZd.cell 0
        have zB : W2.drew.cell? ⟨z, 1, none⟩ = some (.int .u64 (A : Int)) := hZd.cell 1
        obtain ⟨v5, w5, hrun, o5, g5, hv5⟩ := kA.row.append (P := Try.prog) 41 41 52 i0 (.agg #[.int .u64 0, .int .u64 0]) 16 Try.underlying41 hi hz0 hz1 hz2 rfl (by decide) ⟨W2.drew.heap.size, 0, none⟩ 1 [.int .u64 (L1 : Int), .int .u64 (A : Int)] rfl (fun j u hj => by rw [addr_add, Nat.zero_add]; rw [(Blk.new W2.drew 52 #[.int .u64 (L1 : Int), .int .u64 (A : Int)]).cell j]; simpa using hj) (by intro u hu; simp at hu; rcases hu with rfl | rfl <;> rfl) (by show s.length + 1 ≤ maxLen; unfold maxLen; omega) (by show (s.length + 1) * 16 ≤ _; omega)
        obtain ⟨p5, c5, rfl, _, _⟩ := o5.form
        dsimp only at hrun o5 g5 hv5
        rw [appS_eq] at hrun
        have hrun2 : (appS #[41, 41] 41 #[.slice (some ⟨gs, o, none⟩) s.length cap, .slice (some ⟨W2.heap.size, 0, none⟩) 1 1]).run Try.prog (W2.alloc (.cells #[.int .u64 (L1 : Int), .int .u64 (A : Int)] 52)).drew = .ok (.slice p5 (s.length + 1) c5) w5 := hrun
        have hko : (Value.slice (some ⟨gs, o, none⟩) s.length cap).ownBlock ≠ some k := fun e => (kA.ownv k e).2 rfl
        have hkl := hMd.sq.pg.blk.lt
        have hzl := hZd.lt
        have hkz2 : W2.heap.size ≠ k := by omega
        have hzz2 : W2.heap.size ≠ z := by omega
        have hk5 : Blk w5 k 80 #[.int .u64 (ph : Int), .slice (some ⟨gs, o, none⟩) s.length cap] := Blk.grown kA.blk g5 (fun e => hko e.symm)
        have f5 := hk5.frozen 1
        have e5 := hk5.cell 1
        have HK5 := Lib.hid hk5
        have O5 := Lib.hid o5
        have G5 := Lib.hid g5
        have HV5 := Lib.hid hv5
        have HKA := Lib.hid kA
        have HKO := Lib.hid hko
        clear hrun k1 z0 z1 e0 e1 e2 e3 hg hMd hZd hk5 o5 g5 hv5 kA hko
        go_region
        go_wp2_with fail
        go_ret2
        obtain ⟨f1, f2⟩ := soft_fin HM.out.sq.sy.ol hWd HKA.out HK5.out O5.out G5.out HV5.out hkl
        exact ⟨rfl, HFIN.out _ f1 _ f2⟩
end Go.Proofs.Ytckdfnlleaifcaa
