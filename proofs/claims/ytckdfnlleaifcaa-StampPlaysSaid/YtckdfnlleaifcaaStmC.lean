/- Stamps in memory, by what the document knows; Hard, Other, Advance, Forget. -/
import Derived.Test.YtckdfnlleaifcaaStmB
namespace Go.Proofs.Ytckdfnlleaifcaa
set_option linter.unusedVariables false
open Go.RowKit Go.Maps

def ownN (w w' : World) (t : Nat) (own : Nat → Option Nat) : Nat → Option Nat := fun x => if w.heap.size ≤ x ∧ x < w'.heap.size then some t else own x
section
variable {w w' : World} {own own' : Nat → Option Nat} {t k : Nat} {p : Pg} {v : Value} {g gr now last b n n' : Nat} {m m' : List (Nat × Option Nat)} {l : List Tg}
theorem ownN_old (h : ∀ x t, own x = some t → x < w.heap.size) {x t' : Nat} (hx : own x = some t') : ownN w w' t own x = some t' := by
  unfold ownN
  rw [if_neg (by have := h x t' hx; omega), hx]
theorem ownN_none {x : Nat} (hx : own x = none) (hl : x < w.heap.size) : ownN w w' t own x = none := by
  unfold ownN
  rw [if_neg (by omega), hx]
theorem ownN_new {x : Nat} (h1 : w.heap.size ≤ x) (h2 : x < w'.heap.size) : ownN w w' t own x = some t := by
  unfold ownN
  rw [if_pos ⟨h1, h2⟩]
theorem ownN_lt (h : ∀ x t, own x = some t → x < w.heap.size) (hs : w.heap.size ≤ w'.heap.size) {x t' : Nat} (hx : ownN w w' t own x = some t') : x < w'.heap.size := by
  unfold ownN at hx
  split at hx
  · omega
  · have := h x t' hx; omega
theorem ownN_inv {x : Nat} (hx : ownN w w' t own x ≠ none) : own x ≠ none ∨ w.heap.size ≤ x := by
  unfold ownN at hx
  split at hx
  · exact .inr (by omega)
  · exact .inl hx
theorem insK_there {t : Nat} : ∀ {l : List Nat}, l.Pairwise (· < ·) → t ∈ l → insK t l = l
  | [], _, h => by cases h
  | y :: r, hp, h => by
    obtain ⟨h1, h2⟩ := List.pairwise_cons.1 hp
    unfold insK
    rcases List.mem_cons.1 h with rfl | h
    · rw [if_neg (by omega), if_pos rfl]
    · have := h1 t h
      rw [if_neg (by omega), if_neg (by omega), insK_there h2 h]
theorem mput_keys (t : Nat) (v : Option Nat) : ∀ m : List (Nat × Option Nat), m.Pairwise (fun x y => x.1 < y.1) → (mput m t v).map (·.1) = insK t (m.map (·.1))
  | [], _ => rfl
  | y :: r, hp => by
    obtain ⟨h1, h2⟩ := List.pairwise_cons.1 hp
    have ih := mput_keys t v r h2
    unfold mput at ih ⊢
    rw [List.map_cons, List.filter_cons]
    have hall : (∀ z ∈ r, t < z.1) → r.filter (fun p => !(p.1 == t)) = r := fun hz => by
      rw [List.filter_eq_self]
      intro z hzm
      have := hz z hzm
      have e : (z.1 == t) = false := by simp; omega
      rw [e]
      rfl
    have hins : (∀ z ∈ r, t < z.1) → mins (t, v) r = (t, v) :: r := fun hz => by
      rcases r with _ | ⟨z, r⟩
      · rfl
      · unfold mins
        rw [if_pos (hz z List.mem_cons_self)]
    by_cases e : y.1 = t
    · have hb : (y.1 == t) = true := by simp [e]
      have hz : ∀ z ∈ r, t < z.1 := fun z hz => by have := h1 z hz; omega
      rw [hb, hall hz]
      simp only [Bool.not_true, Bool.false_eq_true, if_false]
      rw [hins hz]
      unfold insK
      rw [if_neg (by omega), if_pos e.symm]
      rfl
    · have hb : (y.1 == t) = false := by simp [e]
      rw [hb]
      simp only [Bool.not_false, if_true]
      unfold mins insK
      by_cases hlt : t < y.1
      · have hz : ∀ z ∈ r, t < z.1 := fun z hz => by have := h1 z hz; omega
        rw [if_pos hlt, if_pos hlt, hall hz]
        rfl
      · rw [if_neg hlt, if_neg hlt, if_neg (by omega), List.map_cons, ih]
/-- What is known of a tag is laid anew. -/
theorem Sy.put (h : Sy w g gr now last b n own m l) (ho : Only (fun x => x = b ∨ own x = some t) w w') (hm : MapS w' b n' m') (hk : ∀ t', t' ≠ t → mget none m' t' = mget none m t') (hk2 : mget none m' t = some k) (hkeys : m'.map (·.1) = insK t (m.map (·.1)))
    (hp : PgAt w' (ownN w w' t own) t k p v) (hpk : POk now last p) (ht : t < 65536) (hn : n ≤ n') (hl1 : (insT ⟨t, p⟩ l).length ≤ n') (hl2 : p.soft.length ≤ n') : Sy w' g gr now last b n' (ownN w w' t own) m' (insT ⟨t, p⟩ l) := by
  have hg := h.bk.lt
  have hbl := h.mp.lt
  refine ⟨h.bk.only ho (fun e => by rcases e with e | e; exact h.ne e; rw [h.og] at e; cases e), hm, ownN_none h.og hg, ownN_none h.ob hbl, fun x t' hx => ownN_lt h.ol ho.size hx, ?_, fun y hy => ?_, h.lok.ins ht hpk, ⟨hl1, fun y hy => ?_⟩, h.gb, h.nb, h.lb⟩
  · rw [hkeys, h.keys, insT_keys]
  · rcases insT_mem hy with rfl | hy'
    · exact ⟨k, v, hk2, hp⟩
    · by_cases e : y.tag = t
      · have h1 := getT_of (insT_up h.lok.up) hy
        have h2 := getT_ins_same ⟨t, p⟩ h.lok.up
        rw [e] at h1
        have h3 := Option.some.inj (h1.symm.trans h2)
        subst h3
        exact ⟨k, v, hk2, hp⟩
      · obtain ⟨k', v', h3, h4⟩ := h.at_ y hy'
        have h5 := h4.only ho (fun z hz e2 => by
          rcases e2 with e2 | e2
          · rw [e2, h.ob] at hz; cases hz
          · rw [hz] at e2; exact e (Option.some.inj e2))
        exact ⟨k', v', by rw [hk _ e]; exact h3, ⟨h5.blk, h5.row, ownN_old h.ol h5.ownk, fun z hz => ⟨ownN_old h.ol (h5.ownv z hz).1, (h5.ownv z hz).2⟩⟩⟩
  · rcases insT_mem hy with rfl | hy'
    · exact hl2
    · exact Nat.le_trans (h.ln.2 y hy') hn
/-- Stamps that know, by the document, d; O: their blocks. -/
def St (w : World) (g gr now last n : Nat) (d : List Tg) (O : Nat → Prop) : Prop :=
  ∃ b own m l, Sy w g gr now last b n own m l ∧ LNe l ∧ d = advD gr now l ∧ ∀ x, O x ↔ (x = g ∨ x = b ∨ own x ≠ none)
/-- Only blocks of O, and new ones, have turned; the blocks are now those of O'. -/
structure Goes (w : World) (O : Nat → Prop) (w' : World) (O' : Nat → Prop) : Prop where
  only : Only O w w'
  new : ∀ x, O' x → O x ∨ w.heap.size ≤ x
end
section
variable {w w' : World} {own : Nat → Option Nat} {t : Nat} {g gr now last b n : Nat} {m : List (Nat × Option Nat)} {l d : List Tg} {O : Nat → Prop}
theorem St.below (h : St w g gr now last n d O) (hb : Below w.heap.size w w') : St w' g gr now last n d O := by
  obtain ⟨b, own, m, l, h1, h2, h3, h4⟩ := h
  exact ⟨b, own, m, l, h1.below hb, h2, h3, h4⟩
theorem St.other {S : Nat → Prop} (h : St w g gr now last n d O) (ho : Only S w w') (hS : ∀ x, O x → ¬ S x) : St w' g gr now last n d O := by
  obtain ⟨b, own, m, l, h1, h2, h3, h4⟩ := h
  exact ⟨b, own, m, l, h1.other ho (hS g ((h4 g).2 (.inl rfl))) (hS b ((h4 b).2 (.inr (.inl rfl)))) (fun x t hx => hS x ((h4 x).2 (.inr (.inr (by rw [hx]; simp))))), h2, h3, h4⟩
theorem St.lt (h : St w g gr now last n d O) {x : Nat} (hx : O x) : x < w.heap.size := by
  obtain ⟨b, own, m, l, h1, h2, h3, h4⟩ := h
  rcases (h4 x).1 hx with rfl | rfl | hx
  · exact h1.bk.lt
  · exact h1.mp.lt
  · cases ho : own x with
    | none => exact absurd ho hx
    | some t => exact h1.ol x t ho
theorem St.lok (h : St w g gr now last n d O) : LOk now last d ∧ LNe d ∧ d.length ≤ n ∧ ∀ x ∈ d, x.p.soft.length ≤ n := by
  obtain ⟨b, own, m, l, h1, h2, rfl, h4⟩ := h
  refine ⟨h1.lok.norm gr (Nat.le_refl _), h2.norm h1.lok gr now, by unfold advD; rw [List.length_map]; exact h1.ln.1, fun x hx => ?_⟩
  obtain ⟨y, hy, rfl⟩ := List.mem_map.1 hx
  exact Nat.le_trans (List.length_filter_le _ _) (h1.ln.2 y hy)
theorem St.nb (h : St w g gr now last n d O) : gr ≤ 1099511627776 ∧ now ≤ 18446744073709551615 ∧ last ≤ 18446744073709551615 := by
  obtain ⟨b, own, m, l, h1, _⟩ := h
  exact ⟨h1.gb, h1.nb, h1.lb⟩
/-- What the document says is up to date. -/
theorem St.adv (h : St w g gr now last n d O) : advD gr now d = d := by
  obtain ⟨b, own, m, l, h1, h2, rfl, h4⟩ := h
  exact advD_twice (Nat.le_refl _) l
end
theorem ins_adv {gr now : Nat} (x : Tg) (l : List Tg) : advD gr now (insT x l) = insT (normT gr now x) (advD gr now l) := insT_map (normT gr now) (fun _ => rfl) x l
def HardP (w : World) (O : Nat → Prop) (g gr now' last n t : Nat) (d : List Tg) (e : Ending) (w' : World) : Prop :=
  e = .returned (.tuple #[.int .u64 ((last + 1 : Nat) : Int), .int .i64 0]) ∧ ∃ O', St w' g gr now' (last + 1) (n + 1) (hardD gr now' (last + 1) t d) O' ∧ Goes w O w' O'
set_option maxHeartbeats 2000000 in
set_option maxRecDepth 100000 in
theorem hard_ok {w : World} {g gr now last n : Nat} {d : List Tg} {O : Nat → Prop} (h : St w g gr now last n d O) (t : Nat) (ht : t < 65536) (hl : last < 18446744073709551615) (a : Nat) (ha : a ≤ 18446744073709551615) (hn : n ≤ 100000) :
    Calls Try.prog 25 #[.pointer (some ⟨g, 0, none⟩), .int .i64 (t : Int), .int .u64 (a : Int)] w (HardP w O g gr (max now a) last n t d) := by
  obtain ⟨b, own, m, l, h1, h2, rfl, h4⟩ := h
  have hT : tagB (t : Int) = true := by unfold tagB; simp; omega
  have HC := Lib.hid (check_any h1.bk (t : Int))
  rw [hT, if_pos rfl] at HC
  have HN := Lib.hid (next_ok h1 hl a ha)
  have HE := Lib.hid (show advD gr (max now a) (insT ⟨t, ⟨last + 1, []⟩⟩ l) = hardD gr (max now a) (last + 1) t (advD gr now l) by
    rw [ins_adv]
    unfold hardD
    rw [advD_twice (by omega)]
    rfl)
  clear hT h1
  generalize max now a = A at *
  obtain ⟨L1, hL1⟩ : ∃ L1, L1 = last + 1 := ⟨_, rfl⟩
  have hL2 : L1 ≠ 0 := by omega
  have HL := Lib.hid hL1
  unfold HardP
  rw [← hL1] at HE HN ⊢
  clear hL1
  have H2 := Lib.hid h2
  have H4 := Lib.hid h4
  clear h2 h4
  go_enter Try.func25, Try.ntmps25
  go_wp2_with (go_at_call 39; refine HC.out.mono ?_; rintro e w1 ⟨rfl, rfl⟩)
  refine HN.out.mono ?_
  rintro e w1 ⟨rfl, q1, o1⟩
  obtain ⟨c0, c1, c2, c3⟩ := q1.cells
  have Q1 := Lib.hid q1
  have O1 := Lib.hid o1
  have hm1 := q1.mp.kept (row := none) (World.grownBy_alloc w1 (.cells #[.int .u64 (L1 : Int), .slice none 0 0] 80) none) (by simp)
  have HM1 := Lib.hid hm1
  clear q1 o1 HC HN hm1
  go_wp2_with (at_mapUpdate; refine wpList_update_v (val := ptrV) (q := .i64) rfl _ _ _ 58 77 rfl Try.underlying3 Try.underlying58 rfl HM1.out (by unfold maxLen; omega) t (wf_i64 (by omega)) (some w1.heap.size) rfl (by simp [Act.eval, ptrV]) trivial ?_; intro w2 m2 g2)
  have M2 := Lib.hid m2
  have G2 := Lib.hid g2
  clear m2 g2
  go_wp2_with fail
  go_ret2
  have q1 := Q1.out
  have hb := q1.mp.lt
  have hk2 : Blk w2 w1.heap.size 80 #[.int .u64 (L1 : Int), .slice none 0 0] := Blk.grown (Blk.new w1 _ _) G2.out (by simp; omega)
  have hO1 : Only (fun x => x = b ∨ own x = some t) w1 w2 := ((Only.refl (fun x => x = b ∨ own x = some t) w1).alloc _).trans (Only.of_grown (S := fun x => x = b ∨ own x = some t) G2.out (.inl rfl)) (fun z hz => .inl hz)
  have hsz : w1.heap.size < w2.heap.size := hk2.lt
  have hP : PgAt w2 (ownN w1 w2 t own) t w1.heap.size ⟨L1, []⟩ (.slice none 0 0) := ⟨hk2, Mid.nil w2 2, ownN_new (Nat.le_refl _) hsz, fun z hz => by simp [Value.ownBlock] at hz⟩
  have hap := q1.mp.apart Try.underlying3
  have hput := q1.put (n' := n + 1) hO1 M2.out (fun t' ht' => mget_put_other hap ht' _) (mget_put_same hap _ _) (mput_keys t _ m (q1.mp.sorted Try.underlying3)) hP ⟨List.Pairwise.nil, Nat.le_refl _, (fun x hx => by cases hx), (fun x hx => by cases hx)⟩ ht (Nat.le_succ n) (Nat.le_trans (insT_len _ _) (by have := q1.ln.1; omega)) (by simp)
  refine ⟨rfl, fun x => x = g ∨ x = b ∨ ownN w1 w2 t own x ≠ none, ⟨b, _, _, _, hput, H2.out.ins (.inl (hL2)), HE.out.symm, fun x => Iff.rfl⟩, ?_, ?_⟩
  · exact (O1.out.more (S' := O) (fun z hz => .inl ((H4.out z).2 (.inl hz)))).trans (hO1.more (S' := O) (fun z hz => .inl ((H4.out z).2 (by
      rcases hz with hz | hz
      · exact .inr (.inl hz)
      · exact .inr (.inr (by rw [hz]; simp)))))) (fun z hz => .inl hz)
  · intro x hx
    have hs := O1.out.size
    rcases hx with hx | hx | hx
    · exact .inl ((H4.out x).2 (.inl hx))
    · exact .inl ((H4.out x).2 (.inr (.inl hx)))
    · rcases ownN_inv hx with h5 | h5
      · exact .inl ((H4.out x).2 (.inr (.inr h5)))
      · exact .inr (by omega)
def ErrP (w : World) (v : Value) (e : Ending) (w' : World) : Prop := e = .returned v ∧ w = w'
set_option maxHeartbeats 2000000 in
set_option maxRecDepth 100000 in
theorem hard_bad {w : World} {g gr now last n : Nat} {d : List Tg} {O : Nat → Prop} (h : St w g gr now last n d O) (t : Int) (ht : tagB t = false) (a : Nat) :
    Calls Try.prog 25 #[.pointer (some ⟨g, 0, none⟩), .int .i64 t, .int .u64 (a : Int)] w fun e w' => e = .returned (.tuple #[.int .u64 0, .int .i64 2]) ∧ w = w' := by
  obtain ⟨b, own, m, l, h1, h2, rfl, h4⟩ := h
  have HC := Lib.hid (check_any h1.bk t)
  rw [ht] at HC
  clear h1 h2 h4 ht
  go_enter Try.func25, Try.ntmps25
  go_wp2_with (go_at_call 39; refine HC.out.mono ?_; rintro e w1 ⟨rfl, rfl⟩)
  go_ret2
  exact ⟨rfl, rfl⟩
set_option maxHeartbeats 2000000 in
set_option maxRecDepth 100000 in
theorem hard_full {w : World} {g gr now n : Nat} {d : List Tg} {O : Nat → Prop} (h : St w g gr now 18446744073709551615 n d O) (t : Nat) (ht : t < 65536) (a : Nat) :
    Calls Try.prog 25 #[.pointer (some ⟨g, 0, none⟩), .int .i64 (t : Int), .int .u64 (a : Int)] w fun e w' => e = .returned (.tuple #[.int .u64 0, .int .i64 7]) ∧ w = w' := by
  obtain ⟨b, own, m, l, h1, h2, rfl, h4⟩ := h
  have hT : tagB (t : Int) = true := by unfold tagB; simp; omega
  have HC := Lib.hid (check_any h1.bk (t : Int))
  rw [hT, if_pos rfl] at HC
  have HN := Lib.hid (next_full h1 a)
  clear h1 h2 h4 hT
  go_enter Try.func25, Try.ntmps25
  go_wp2_with (first
    | (go_at_call 39; refine HC.out.mono ?_; rintro e w1 ⟨rfl, rfl⟩)
    | (go_at_call 37; refine HN.out.mono ?_; rintro e w1 ⟨rfl, rfl⟩))
  go_ret2
  exact ⟨rfl, rfl⟩
/-! ### Other, Advance -/
theorem St.head {w' : World} {g gr now n : Nat} {d : List Tg} {O : Nat → Prop} {b : Nat} {own : Nat → Option Nat} {m : List (Nat × Option Nat)} {l : List Tg} (h2 : LNe l) (h3 : d = advD gr now l) (h4 : ∀ x, O x ↔ (x = g ∨ x = b ∨ own x ≠ none)) {now' last' : Nat} (hn : now ≤ now') (q : Sy w' g gr now' last' b n own m l) : St w' g gr now' last' n (advD gr now' d) O :=
  ⟨b, own, m, l, q, h2, by rw [h3, advD_twice hn], h4⟩
def OtherP (w : World) (O : Nat → Prop) (g gr now' last n : Nat) (d : List Tg) (e : Ending) (w' : World) : Prop :=
  e = .returned (.tuple #[.int .u64 ((last + 1 : Nat) : Int), .int .i64 0]) ∧ St w' g gr now' (last + 1) n (advD gr now' d) O ∧ Only O w w'
set_option maxHeartbeats 2000000 in
set_option maxRecDepth 100000 in
theorem other_ok {w : World} {g gr now last n : Nat} {d : List Tg} {O : Nat → Prop} (h : St w g gr now last n d O) (hl : last < 18446744073709551615) (a : Nat) (ha : a ≤ 18446744073709551615) :
    Calls Try.prog 15 #[.pointer (some ⟨g, 0, none⟩), .int .u64 (a : Int)] w (OtherP w O g gr (max now a) last n d) := by
  obtain ⟨b, own, m, l, h1, h2, h3, h4⟩ := h
  have HC := Lib.hid (none_blk h1.bk)
  have HN := Lib.hid (next_ok h1 hl a ha)
  have hn : now ≤ max now a := by omega
  have HH := Lib.hid (fun (w' : World) (q : Sy w' g gr (max now a) (last + 1) b n own m l) => St.head h2 h3 h4 hn q)
  have H4 := Lib.hid h4
  unfold OtherP
  generalize max now a = A at *
  generalize last + 1 = L1 at *
  clear h1 h2 h3 h4
  go_enter Try.func15, Try.ntmps15
  go_wp2_with (go_at_call 36; refine HC.out.mono ?_; rintro e w1 ⟨rfl, rfl⟩)
  refine HN.out.mono ?_
  rintro e w1 ⟨rfl, q1, o1⟩
  have Q1 := Lib.hid q1
  have O1 := Lib.hid o1
  clear q1 o1 HC HN
  go_wp2_with fail
  go_ret2
  exact ⟨rfl, HH.out _ Q1.out, O1.out.more (fun z hz => .inl ((H4.out z).2 (.inl hz)))⟩
set_option maxHeartbeats 2000000 in
set_option maxRecDepth 100000 in
theorem other_full {w : World} {g gr now n : Nat} {d : List Tg} {O : Nat → Prop} (h : St w g gr now 18446744073709551615 n d O) (a : Nat) :
    Calls Try.prog 15 #[.pointer (some ⟨g, 0, none⟩), .int .u64 (a : Int)] w fun e w' => e = .returned (.tuple #[.int .u64 0, .int .i64 7]) ∧ w = w' := by
  obtain ⟨b, own, m, l, h1, h2, h3, h4⟩ := h
  have HC := Lib.hid (none_blk h1.bk)
  have HN := Lib.hid (next_full h1 a)
  clear h1 h2 h3 h4
  go_enter Try.func15, Try.ntmps15
  go_wp2_with (first
    | (go_at_call 36; refine HC.out.mono ?_; rintro e w1 ⟨rfl, rfl⟩)
    | (go_at_call 37; refine HN.out.mono ?_; rintro e w1 ⟨rfl, rfl⟩))
  go_ret2
  exact ⟨rfl, rfl⟩
def AdvP (w : World) (O : Nat → Prop) (g gr now' last n : Nat) (d : List Tg) (e : Ending) (w' : World) : Prop :=
  e = .returned (.int .i64 0) ∧ St w' g gr now' last n (advD gr now' d) O ∧ Only O w w'
set_option maxHeartbeats 2000000 in
set_option maxRecDepth 100000 in
theorem advance_any {w : World} {g gr now last n : Nat} {d : List Tg} {O : Nat → Prop} (h : St w g gr now last n d O) (a : Nat) (ha : a ≤ 18446744073709551615) :
    Calls Try.prog 16 #[.pointer (some ⟨g, 0, none⟩), .int .u64 (a : Int)] w (AdvP w O g gr (max now a) last n d) := by
  obtain ⟨b, own, m, l, h1, h2, h3, h4⟩ := h
  have HC := Lib.hid (none_blk h1.bk)
  have HE := Lib.hid (fun W => effective_any now a W)
  have hn : now ≤ max now a := by omega
  have HH := Lib.hid (fun (w' : World) (q : Sy w' g gr (max now a) last b n own m l) => St.head h2 h3 h4 hn q)
  have hnn : max now a ≤ 18446744073709551615 := by have := h1.nb; omega
  have HN := Lib.hid hnn
  have H1 := Lib.hid h1
  have H4 := Lib.hid h4
  obtain ⟨c0, c1, c2, c3⟩ := h1.cells
  have hb := h1.bk.lt
  have hf := h1.bk.frozen
  generalize max now a = A at *
  have HK : Hid (Blk (w.setCell ⟨g, 1, none⟩ (.int .u64 (A : Int))) g 60 #[.int .u64 (gr : Int), .int .u64 (A : Int), .int .u64 (last : Int), .map (some b)]) := by
    have := h1.bk.set_ 1 (.int .u64 (A : Int))
    simpa [Hid] using this
  have HO := Lib.hid ((Only.refl (fun x => x = g) w).setCell1 (g := g) (.inl rfl) 1 (.int .u64 (A : Int)))
  clear h1 h2 h3 h4 hnn
  go_enter Try.func16, Try.ntmps16
  go_wp2_with (first
    | (go_at_call 36; refine HC.out.mono ?_; rintro e w1 ⟨rfl, rfl⟩)
    | (go_at_call 38; refine (HE.out _).mono ?_; rintro e w1 ⟨rfl, rfl⟩))
  go_ret
  exact ⟨rfl, HH.out _ (H1.out.head HO.out HK.out hn (Nat.le_refl _) HN.out H1.out.lb), HO.out.more (fun z hz => .inl ((H4.out z).2 (.inl hz)))⟩
theorem mget_del {m : List (Nat × Option Nat)} {t t' : Nat} (hne : t' ≠ t) : mget none (mdel m t) t' = mget none m t' := by
  unfold mget mdel
  rw [List.find?_filter]
  have e : (fun p : Nat × Option Nat => decide ((!(p.1 == t)) = true ∧ (p.1 == t') = true)) = fun p => p.1 == t' := by
    funext p
    by_cases h : p.1 = t'
    · simp [h, hne]
    · simp [h]
  rw [e]
theorem Sy.del {w w' : World} {own : Nat → Option Nat} {t : Nat} {g gr now last b n : Nat} {m : List (Nat × Option Nat)} {l : List Tg} (h : Sy w g gr now last b n own m l) (hg : w.grownBy w' (some b)) (hm : MapS w' b n (mdel m t)) : Sy w' g gr now last b n own (mdel m t) (delT t l) := by
  have ho : Only (fun x => x = b) w w' := Only.of_grown hg rfl
  refine ⟨h.bk.only ho h.ne, hm, h.og, h.ob, fun x t hx => Nat.lt_of_lt_of_le (h.ol x t hx) ho.size, ?_, fun y hy => ?_, h.lok.del t, ⟨Nat.le_trans (delT_len t l) h.ln.1, fun y hy => h.ln.2 y (List.mem_filter.1 hy).1⟩, h.gb, h.nb, h.lb⟩
  · unfold mdel delT
    rw [show (fun p : Nat × Option Nat => !(p.1 == t)) = (fun k => !(k == t)) ∘ (·.1) from rfl, ← List.filter_map, h.keys, List.filter_map]
    rfl
  · obtain ⟨h1, h2⟩ := List.mem_filter.1 hy
    have hne : y.tag ≠ t := by simpa using h2
    obtain ⟨k, v, h3, h4⟩ := h.at_ y h1
    exact ⟨k, v, by rw [mget_del hne]; exact h3, h4.only ho (fun z hz e => by rw [e, h.ob] at hz; cases hz)⟩
def ForgP (w : World) (O : Nat → Prop) (g gr now last n t : Nat) (d : List Tg) (e : Ending) (w' : World) : Prop :=
  e = .returned (.int .i64 0) ∧ St w' g gr now last n (delT t d) O ∧ Only O w w'
set_option maxHeartbeats 2000000 in
set_option maxRecDepth 100000 in
theorem forget_bad {w : World} {g gr now last n : Nat} {d : List Tg} {O : Nat → Prop} (h : St w g gr now last n d O) (t : Int) (ht : tagB t = false) :
    Calls Try.prog 17 #[.pointer (some ⟨g, 0, none⟩), .int .i64 t] w fun e w' => e = .returned (.int .i64 2) ∧ w = w' := by
  obtain ⟨b, own, m, l, h1, h2, rfl, h4⟩ := h
  have HC := Lib.hid (check_any h1.bk t)
  rw [ht] at HC
  clear h1 h2 h4 ht
  go_enter Try.func17, Try.ntmps17
  go_wp2_with (go_at_call 39; refine HC.out.mono ?_; rintro e w1 ⟨rfl, rfl⟩)
  go_ret
  exact ⟨rfl, rfl⟩
set_option maxHeartbeats 2000000 in
set_option maxRecDepth 100000 in
theorem forget_none {w : World} {g gr now last n : Nat} {d : List Tg} {O : Nat → Prop} (h : St w g gr now last n d O) (t : Nat) (ht : t < 65536) (hx : getT t d = none) :
    Calls Try.prog 17 #[.pointer (some ⟨g, 0, none⟩), .int .i64 (t : Int)] w fun e w' => e = .returned (.int .i64 9) ∧ w = w' := by
  obtain ⟨b, own, m, l, h1, h2, rfl, h4⟩ := h
  have hT : tagB (t : Int) = true := by unfold tagB; simp; omega
  have HC := Lib.hid (check_any h1.bk (t : Int))
  rw [hT, if_pos rfl] at HC
  unfold advD at hx
  rw [getT_map (normT gr now) (fun _ => rfl), Option.map_eq_none_iff] at hx
  have hk := look_any h1.mp ht
  rw [h1.none__ hx] at hk
  change _ = Result.ok (Value.pointer none) _ at hk
  obtain ⟨c0, c1, c2, c3⟩ := h1.cells
  clear h1 h2 h4 hT hx
  go_enter Try.func17, Try.ntmps17
  go_wp2_with (go_at_call 39; refine HC.out.mono ?_; rintro e w1 ⟨rfl, rfl⟩)
  go_ret
  exact ⟨rfl, rfl⟩
set_option maxHeartbeats 2000000 in
set_option maxRecDepth 100000 in
theorem forget_some {w : World} {g gr now last n : Nat} {d : List Tg} {O : Nat → Prop} (h : St w g gr now last n d O) (t : Nat) (ht : t < 65536) {x : Tg} (hx : getT t d = some x) :
    Calls Try.prog 17 #[.pointer (some ⟨g, 0, none⟩), .int .i64 (t : Int)] w (ForgP w O g gr now last n t d) := by
  obtain ⟨b, own, m, l, h1, h2, rfl, h4⟩ := h
  have hT : tagB (t : Int) = true := by unfold tagB; simp; omega
  have HC := Lib.hid (check_any h1.bk (t : Int))
  rw [hT, if_pos rfl] at HC
  unfold advD at hx
  rw [getT_map (normT gr now) (fun _ => rfl)] at hx
  obtain ⟨y, hy, _⟩ := Option.map_eq_some_iff.1 hx
  have hk := look_any h1.mp ht
  obtain ⟨k, v, hk1, _⟩ := h1.some_ hy
  rw [hk1] at hk
  change _ = Result.ok (Value.pointer (some ⟨k, 0, none⟩)) _ at hk
  obtain ⟨c0, c1, c2, c3⟩ := h1.cells
  have H1 := Lib.hid h1
  have H2 := Lib.hid h2
  have H4 := Lib.hid h4
  clear h1 h2 h4 hT hx hy hk1
  go_enter Try.func17, Try.ntmps17
  go_wp2_with (first
    | (go_at_call 39; refine HC.out.mono ?_; rintro e w1 ⟨rfl, rfl⟩)
    | (at_delete; refine wpList_delete_v (val := ptrV) (q := .i64) rfl _ _ 58 77 rfl Try.underlying3 Try.underlying58 rfl H1.out.mp t (wf_i64 (by omega)) rfl ?_; intro w2 m2 g2))
  have q := Lib.hid (H1.out.del g2 m2)
  have G2 := Lib.hid g2
  clear g2 m2
  go_wp2_with fail
  go_ret
  exact ⟨rfl, ⟨b, own, _, _, q.out, H2.out.del t, (delT_map (normT gr now) (fun _ => rfl) t l).symm, H4.out⟩, Only.of_grown G2.out ((H4.out b).2 (.inr (.inl rfl)))⟩
end Go.Proofs.Ytckdfnlleaifcaa
