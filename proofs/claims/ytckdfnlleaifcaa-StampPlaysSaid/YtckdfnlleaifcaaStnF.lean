/- Restore. -/
import Derived.Test.YtckdfnlleaifcaaStnE
import Derived.Test.YtckdfnlleaifcaaQTail
import Derived.Test.YtckdfnlleaifcaaStmR
import Derived.Deep.DeepCutAuto
namespace Go.Proofs.Ytckdfnlleaifcaa
set_option linter.unusedVariables false
open Go.RowKit Go.Maps Go.Sort

def rwCells : List Rw → List Value
  | [] => []
  | e :: l => .int .i64 e.tag :: .int .u64 (e.p.hard : Int) :: e.v :: rwCells l
theorem rwCells_get : ∀ {l : List Rw} {i : Nat} {e : Rw}, l[i]? = some e → (rwCells l)[i * 3]? = some (.int .i64 e.tag) ∧ (rwCells l)[i * 3 + 1]? = some (.int .u64 (e.p.hard : Int)) ∧ (rwCells l)[i * 3 + 2]? = some e.v
  | [], i, e, h => by simp at h
  | x :: l, 0, e, h => by
    simp at h
    subst h
    exact ⟨rfl, rfl, rfl⟩
  | x :: l, i + 1, e, h => by
    have h' : l[i]? = some e := by simpa using h
    obtain ⟨h1, h2, h3⟩ := rwCells_get h'
    have e1 : (i + 1) * 3 = i * 3 + 1 + 1 + 1 := by omega
    rw [e1]
    exact ⟨h1, h2, h3⟩
/-- A list that came in. -/
structure RawAt (w : World) (v : Value) (R : List Rw) : Prop where
  row : RowAt w 3 v R.length (rwCells R)
  soft : ∀ e ∈ R, SoftAt w e.v e.p.soft
  small : R.length ≤ 100000 ∧ ∀ e ∈ R, e.p.soft.length ≤ 100000
  nb : ∀ e ∈ R, e.p.hard ≤ 18446744073709551615 ∧ ∀ y ∈ e.p.soft, y.st ≤ 18446744073709551615 ∧ y.tm ≤ 18446744073709551615
theorem RawAt.below {w w' : World} {v : Value} {R : List Rw} (h : RawAt w v R) (hb : Below w.heap.size w w') : RawAt w' v R := ⟨h.row.below hb, fun e he => (h.soft e he).below hb, h.small, h.nb⟩
/-- Restore's state. -/
structure Rs (w0 wr : World) (gr now last g b n LB SB MB i : Nat) (own : Nat → Option Nat) (ms : List (Nat × Option Nat)) (lc : List Tg) (cnt : Nat) (mk : Mk) : Prop where
  sy : Sy wr g gr now last b n own ms lc
  mt : MapS wr b i ms
  lb : Blk wr LB 22 #[.int .u64 (last : Int)]
  sb : Blk wr SB 95 #[.map (some MB)]
  mb : MapB wr MB cnt mk
  cb : cnt ≤ 20000000000
  bel : Below w0.heap.size w0 wr
  new : ∀ x t, own x = some t → w0.heap.size < x ∧ x ≠ MB ∧ x ≠ SB
  lo : LB = w0.heap.size ∧ LB < g ∧ LB < b ∧ g < MB ∧ b < MB ∧ SB = MB + 1
  ll : lc.length ≤ i
section
variable {w0 wr w1 : World} {gr now last g b n LB SB MB i cnt c2 : Nat} {own : Nat → Option Nat} {ms : List (Nat × Option Nat)} {lc : List Tg} {mk mk2 : Mk}
theorem Rs.below (h : Rs w0 wr gr now last g b n LB SB MB i own ms lc cnt mk) (hb : Below wr.heap.size wr w1) : Rs w0 w1 gr now last g b n LB SB MB i own ms lc cnt mk :=
  ⟨h.sy.below hb, h.mt.kept (row := none) (only_of_below hb none) (by simp), h.lb.below hb h.lb.lt, h.sb.below hb h.sb.lt, h.mb.kept (row := none) (only_of_below hb none) (by simp), h.cb, h.bel.trans (hb.mono h.bel.size), h.new, h.lo, h.ll⟩
theorem Rs.seen (h : Rs w0 wr gr now last g b n LB SB MB i own ms lc cnt mk) (hg : wr.grownBy w1 (some MB)) (hm : MapB w1 MB c2 mk2) (hc : c2 ≤ 20000000000) : Rs w0 w1 gr now last g b n LB SB MB i own ms lc c2 mk2 := by
  obtain ⟨h1, h2, h3, h4, h5, h6⟩ := h.lo
  have ho : Only (fun x => x = MB) wr w1 := Only.of_grown (S := fun x => x = MB) hg rfl
  have hbs := h.bel.size
  exact ⟨h.sy.other ho (by omega) (by omega) (fun x t hx => (h.new x t hx).2.1), h.mt.kept hg (fun e => by have := Option.some.inj e; omega), h.lb.only ho (by omega), h.sb.only ho (by omega), hm, hc, h.bel.trans (ho.below (fun x hx => by omega) h.bel.size), h.new, h.lo, h.ll⟩
theorem Rs.fine (h : Rs w0 wr gr now last g b n LB SB MB i own ms lc cnt mk) (hc : cnt < 20000000000) (x : Nat) (hx : x ≤ 18446744073709551615) :
    Calls Try.prog 52 #[.int .u64 (x : Int), .pointer (some ⟨SB, 0, none⟩), .pointer (some ⟨LB, 0, none⟩)] wr fun e w' => e = .returned (.bool (fineM mk last x)) ∧ Rs w0 w' gr now last g b n LB SB MB i own ms lc (cnt + 1) (mput mk x true) ∧ wr.grownBy w' (some MB) := by
  obtain ⟨h1, h2, h3, h4, h5, h6⟩ := h.lo
  refine (fine_any h.sb h.lb h.mb (by unfold maxLen; omega) (by omega) (by omega) x hx).mono ?_
  rintro e w' ⟨k1, k2, k3⟩
  exact ⟨k1, h.seen k3 k2 (by omega), k3⟩
theorem MapB.turn {w w' : World} {b n : Nat} {m : Mk} (h : MapB w b n m) (he : w'.heap[b]? = w.heap[b]?) : MapB w' b n m := by
  obtain ⟨⟨es, clock, hb, Ft, hs, hD⟩, q2⟩ := h
  exact ⟨⟨es, clock, he.trans hb, Ft, hs, hD⟩, q2⟩
theorem Rs.step {w7 : World} (h : Rs w0 w1 gr now last g b n LB SB MB i own ms lc cnt mk) {y : Tg} (ht : y.tag < 65536) (hp : POk now last y.p) (hpl : y.p.soft.length ≤ n) (hin : i + 1 ≤ n) {kk : Nat} {v : Value} (ho : Only (fun x => x = b) w1 w7) (hm : MapS w7 b (i + 1) (mput ms y.tag (some kk)))
    (hblk : Blk w7 kk 80 #[.int .u64 (y.p.hard : Int), v]) (hrow : Mid w7 2 v y.p.soft.length (softCells y.p.soft)) (hkk : w1.heap.size ≤ kk ∧ kk < w7.heap.size) (hv : ∀ z, v.ownBlock = some z → w1.heap.size ≤ z ∧ z < w7.heap.size ∧ z ≠ kk) :
    Rs w0 w7 gr now last g b n LB SB MB (i + 1) (ownN w1 w7 y.tag own) (mput ms y.tag (some kk)) (insT y lc) cnt mk := by
  obtain ⟨h1, h2, h3, h4, h5, h6⟩ := h.lo
  have hap := h.mt.apart Try.underlying3
  have hlen : (insT y lc).length ≤ i + 1 := Nat.le_trans (insT_len _ _) (by have := h.ll; omega)
  have hpg : PgAt w7 (ownN w1 w7 y.tag own) y.tag kk y.p v := ⟨hblk, hrow, ownN_new hkk.1 hkk.2, fun z hz => ⟨ownN_new (hv z hz).1 (hv z hz).2.1, (hv z hz).2.2⟩⟩
  have hput := h.sy.put (n' := n) (ho.more (fun z hz => .inl (.inl hz))) (hm.mono hin) (fun t' ht' => mget_put_other hap ht' _) (mget_put_same hap _ _) (mput_keys y.tag _ ms (h.mt.sorted Try.underlying3)) hpg hp ht (Nat.le_refl _) (Nat.le_trans hlen hin) hpl
  have hbs := h.bel.size
  have hsb := h.sb.lt
  refine ⟨hput, hm, h.lb.only ho (by omega), h.sb.only ho (by omega), h.mb.turn (ho.block MB h.mb.lt (by omega)), h.cb, h.bel.trans (ho.below (fun x hx => by omega) hbs), fun x t hx => ?_, h.lo, hlen⟩
  unfold ownN at hx
  split at hx
  · omega
  · exact h.new x t hx
theorem Rs.apart (h : Rs w0 wr gr now last g b n LB SB MB i own ms lc cnt mk) {BN : Nat} (hB : MB + 1 < BN) (hO : ∀ x t, own x = some t → x < BN) (ho : Only (fun x => x = BN) wr w1) : Rs w0 w1 gr now last g b n LB SB MB i own ms lc cnt mk := by
  obtain ⟨h1, h2, h3, h4, h5, h6⟩ := h.lo
  have hbs := h.bel.size
  have hbl := h.mt.lt
  have hmb := h.mb.lt
  exact ⟨h.sy.other ho (by omega) (by omega) (fun x t hx => by have := hO x t hx; omega), h.mt.turn (ho.block b hbl (by omega)), h.lb.only ho (by omega), h.sb.only ho (by omega), h.mb.turn (ho.block MB hmb (by omega)), h.cb, h.bel.trans (ho.below (fun x hx => by omega) hbs), h.new, h.lo, h.ll⟩
end
section
variable {gr now last : Nat} {prev : Option Int} {x : Rw} {m : Mk}
theorem okE_bad (h : entB prev x = false) : okE gr now last prev x m = none := by
  unfold okE
  rw [if_neg (by rw [h]; simp)]
theorem okE_zero (h : entB prev x = true) (h0 : x.p.hard = 0) : okE gr now last prev x m = okS gr now last 0 none x.p.soft m := by
  unfold okE
  rw [if_pos h, if_pos h0]
theorem okE_fine (h : entB prev x = true) (h0 : x.p.hard ≠ 0) (hf : fineM m last x.p.hard = true) : okE gr now last prev x m = okS gr now last x.p.hard none x.p.soft (mput m x.p.hard true) := by
  unfold okE
  rw [if_pos h, if_neg h0, if_pos hf]
theorem okE_not (h0 : x.p.hard ≠ 0) (hf : fineM m last x.p.hard = false) : okE gr now last prev x m = none := by
  unfold okE
  by_cases he : entB prev x = true
  · rw [if_pos he, if_neg h0, hf]
    rfl
  · rw [if_neg he]
theorem entB_tag (h : tagB x.tag = false) : entB prev x = false := by
  unfold entB
  rw [h]
  rfl
theorem entB_prev {t : Int} (hp : prev = some t) (h : x.tag ≤ t) : entB prev x = false := by
  unfold entB
  subst hp
  have : decide (t < x.tag) = false := decide_eq_false (by omega)
  simp [this]
theorem entB_empty (h : x.p.hard = 0) (h2 : x.p.soft = []) : entB prev x = false := by
  unfold entB
  simp [h, h2]
theorem entB_good (h : tagB x.tag = true) (hp : ∀ t, prev = some t → t < x.tag) (hn : x.p.hard ≠ 0 ∨ x.p.soft ≠ []) : entB prev x = true := by
  unfold entB
  have h1 : prev.all (fun t => decide (t < x.tag)) = true := by
    cases prev with
    | none => rfl
    | some t => exact decide_eq_true (hp t rfl)
  rw [h, h1]
  rcases hn with hn | hn
  · simp [hn]
  · simp [hn]
end
theorem sofB_is {gr now last b : Nat} {bt : Option Nat} {y : Sft} {m : Mk} : sofB gr now last b bt y m = (decide (b < y.st) && bt.all (fun t => decide (t < y.tm)) && decide (y.tm ≤ now) && !overB gr now y.tm && fineM m last y.st) := rfl
theorem okS_cons {gr now last b : Nat} {bt : Option Nat} {y : Sft} {r : List Sft} {m : Mk} : okS gr now last b bt (y :: r) m = if sofB gr now last b bt y m = true then okS gr now last y.st (some y.tm) r (mput m y.st true) else none := rfl
theorem okL_cons {gr now last : Nat} {prev : Option Int} {x : Rw} {r : List Rw} {m : Mk} : okL gr now last prev (x :: r) m = (okE gr now last prev x m).bind (okL gr now last (some x.tag) r) := rfl
/-- Tags are laid one after the other. -/
def insA (l : List Tg) : List Tg := l.foldl (fun d x => insT x d) []
theorem insA_up : ∀ l : List Tg, TUp (insA l) := by
  have : ∀ (l d : List Tg), TUp d → TUp (l.foldl (fun d x => insT x d) d) := by
    intro l
    induction l with
    | nil => exact fun d h => h
    | cons x l ih => exact fun d h => ih _ (insT_up h)
  exact fun l => this l [] List.Pairwise.nil
theorem insA_mem {l : List Tg} (h : TUp l) : ∀ x, x ∈ insA l ↔ x ∈ l := by
  have key : ∀ (l d : List Tg), TUp l → TUp d → (∀ x ∈ d, ∀ y ∈ l, x.tag < y.tag) → ∀ x, x ∈ l.foldl (fun d x => insT x d) d ↔ x ∈ d ∨ x ∈ l := by
    intro l
    induction l with
    | nil => intro d _ _ _ x; simp
    | cons y l ih =>
      intro d hl hd hlt x
      obtain ⟨h1, h2⟩ := List.pairwise_cons.1 hl
      rw [List.foldl_cons, ih _ h2 (insT_up hd) (fun z hz y' hy' => by
        rcases insT_mem hz with rfl | hz
        · exact h1 y' hy'
        · exact hlt z hz y' (List.mem_cons_of_mem _ hy'))]
      constructor
      · rintro (hx | hx)
        · rcases insT_mem hx with rfl | hx
          · exact .inr List.mem_cons_self
          · exact .inl hx
        · exact .inr (List.mem_cons_of_mem _ hx)
      · rintro (hx | hx)
        · exact .inl (mem_ins hd (.inr ⟨hx, by have := hlt x hx y List.mem_cons_self; omega⟩))
        · rcases List.mem_cons.1 hx with rfl | hx
          · exact .inl (mem_ins hd (.inl rfl))
          · exact .inr hx
  intro x
  have := key l [] h List.Pairwise.nil (fun x hx => by cases hx) x
  simpa [insA] using this
theorem insA_self {l : List Tg} (h : TUp l) : insA l = l := tup_same h (insA_up l) (insA_mem h)
theorem insA_snoc (l : List Tg) (x : Tg) : insA (l ++ [x]) = insT x (insA l) := by
  unfold insA
  rw [List.foldl_append]
  rfl
def RestP (w : World) (gr now last n : Nat) (R : List Rw) (B : Bool) (e : Ending) (w' : World) : Prop :=
  (B = false ∧ e = .returned (.tuple #[.pointer none, .int .i64 2]) ∧ Below w.heap.size w w') ∨
  (B = true ∧ ∃ g' O', e = .returned (.tuple #[.pointer (some ⟨g', 0, none⟩), .int .i64 0]) ∧ St w' g' gr now last n (tgR R) O' ∧ (∀ x, O' x → w.heap.size ≤ x) ∧ Below w.heap.size w w')
theorem St.empty {w : World} {g gr n : Nat} {O : Nat → Prop} (h : St w g gr 0 0 n [] O) : ∃ b own, Sy w g gr 0 0 b n own [] [] ∧ (∀ x, O x ↔ (x = g ∨ x = b ∨ own x ≠ none)) := by
  obtain ⟨b, own, m, l, h1, h2, h3, h4⟩ := h
  have hl : l = [] := by
    unfold advD at h3
    exact List.map_eq_nil_iff.1 h3.symm
  subst hl
  have hm : m = [] := List.map_eq_nil_iff.1 h1.keys
  subst hm
  exact ⟨b, own, h1, h4⟩
set_option maxHeartbeats 24000000 in
set_option maxRecDepth 100000 in
theorem restore_any {w : World} {p : Option Addr} {cap : Nat} {R : List Rw} (hr : RawAt w (.slice p R.length cap) R) (gr now last n : Nat) (hg : gr ≤ 1099511627776) (hnw : now ≤ 18446744073709551615) (hla : last ≤ 18446744073709551615) (hRn : R.length ≤ n) (hsn : ∀ e ∈ R, e.p.soft.length ≤ n) (hn : n ≤ 100000) :
    Calls Try.prog 33 #[.int .u64 (gr : Int), .int .u64 (now : Int), .int .u64 (last : Int), .slice p R.length cap] w (RestP w gr now last n R (okL gr now last none R []).isSome) := by
  have HN := Lib.hid (new_ok gr hg (w.alloc (.cells #[.int .u64 (last : Int)] 22)))
  have HR := Lib.hid hr
  have HSN := Lib.hid hsn
  obtain ⟨B, hB⟩ : ∃ B, (okL gr now last none R []).isSome = B := ⟨_, rfl⟩
  rw [hB]
  have HB := Lib.hid hB
  obtain ⟨n5, hn5⟩ : ∃ n5, n5 = R.length := ⟨_, rfl⟩
  rw [← hn5] at hRn HR ⊢
  have HN5 := Lib.hid hn5
  have hmm := @run_makeMap Try.prog
  have hmf : ∀ (fn : Fn) (first cap : Array Value) (w : World), (Instr.makeFunc fn first cap).run Try.prog w = .ok (.func fn first cap) w := fun _ _ _ _ => rfl
  clear hr hsn hB hn5
  go_enter Try.func33, Try.ntmps33
  go_wp2_with fail
  refine HN.out.mono ?_
  rintro e w1 ⟨g, O, rfl, hst, hO, b1⟩
  obtain ⟨b, own, hsy, h4⟩ := hst.empty
  obtain ⟨c0, c1, c2, c3⟩ := hsy.cells
  have cf := hsy.bk.frozen
  have l0 := Blk.cell ((Blk.new w 22 #[.int .u64 (last : Int)]).below b1 (by simp)) 0
  simp only [List.getElem?_toArray, List.getElem?_cons_zero] at l0
  have HO := Lib.hid hO
  have SY := Lib.hid hsy
  have H4 := Lib.hid h4
  have B1 := Lib.hid b1
  clear hst hsy h4 hO b1 HN
  go_wp2_with fail
  go_region
  have ho2 : Only (fun x => x = g) w1 (((w1.setCell ⟨g, 1, none⟩ (.int .u64 (now : Int))).setCell ⟨g, 2, none⟩ (.int .u64 (last : Int))).drew) := (((Only.refl (fun x => x = g) w1).setCell1 (g := g) (.inl rfl) 1 (.int .u64 (now : Int))).setCell1 (g := g) (.inl rfl) 2 (.int .u64 (last : Int))).trans (Only.of_below ((Below.refl _ _).drew) (fun x => x = g)) (fun z hz => .inl hz)
  have hgO := HO.out g ((H4.out g).2 (.inl rfl))
  have hbO := HO.out b ((H4.out b).2 (.inr (.inl rfl)))
  have howO := fun x t (hx : own x = some t) => HO.out x ((H4.out x).2 (.inr (.inr (by rw [hx]; simp))))
  have hws : (w.alloc (.cells #[.int .u64 (last : Int)] 22)).heap.size = w.heap.size + 1 := by simp
  have hgb := SY.out.ne
  have hbk2 : Blk (((w1.setCell ⟨g, 1, none⟩ (.int .u64 (now : Int))).setCell ⟨g, 2, none⟩ (.int .u64 (last : Int))).drew) g 60 #[.int .u64 (gr : Int), .int .u64 (now : Int), .int .u64 (last : Int), .map (some b)] := by
    have := (SY.out.bk.set_ 1 (.int .u64 (now : Int))).set_ 2 (.int .u64 (last : Int))
    simp only [List.setIfInBounds_toArray, List.set_cons_zero, List.set_cons_succ] at this
    exact this
  have hbl2 : Below w.heap.size w (((w1.setCell ⟨g, 1, none⟩ (.int .u64 (now : Int))).setCell ⟨g, 2, none⟩ (.int .u64 (last : Int))).drew) := ((((Below.refl w.heap.size w).alloc (Nat.le_refl _) _).trans (B1.out.mono (by omega))).trans (ho2.below (fun x hx => by omega) (by have := B1.out.size; omega)))
  have hmt : MapS (((w1.setCell ⟨g, 1, none⟩ (.int .u64 (now : Int))).setCell ⟨g, 2, none⟩ (.int .u64 (last : Int))).drew) b 0 [] := (SY.out.mp.turn (ho2.block b SY.out.mp.lt (fun e => hgb e.symm)))
  have SY2 : Hid (Sy (((w1.setCell ⟨g, 1, none⟩ (.int .u64 (now : Int))).setCell ⟨g, 2, none⟩ (.int .u64 (last : Int))).drew) g gr now last b n own [] []) := ⟨hbk2, hmt.mono (Nat.zero_le _), SY.out.og, SY.out.ob, fun x t hx => Nat.lt_of_lt_of_le (SY.out.ol x t hx) ho2.size, rfl, (fun x hx => by cases hx), LOk.nil now last, ⟨Nat.zero_le _, fun x hx => by cases hx⟩, hg, hnw, hla⟩
  have hlb2 : Blk (((w1.setCell ⟨g, 1, none⟩ (.int .u64 (now : Int))).setCell ⟨g, 2, none⟩ (.int .u64 (last : Int))).drew) w.heap.size 22 #[.int .u64 (last : Int)] := ((Blk.new w _ _).below B1.out (by omega)).only ho2 (by omega)
  have HMT := Lib.hid hmt
  have HLB := Lib.hid hlb2
  have HBL := Lib.hid hbl2
  clear c0 c1 c2 c3 cf l0 hmt hlb2 hbl2 hbk2 ho2 B1 SY
  generalize ((w1.setCell ⟨g, 1, none⟩ (.int .u64 (now : Int))).setCell ⟨g, 2, none⟩ (.int .u64 (last : Int))).drew = W2 at *
  have hgl2 := SY2.out.bk.lt
  have hbl2 := SY2.out.mp.lt
  have R0 : Hid (Rs w ((W2.alloc (.map #[] 0)).alloc (.cells #[.map (some W2.heap.size)] 95)) gr now last g b n w.heap.size (W2.heap.size + 1) W2.heap.size 0 own [] [] 0 []) := by
    have hb3 : Below W2.heap.size W2 ((W2.alloc (.map #[] 0)).alloc (.cells #[.map (some W2.heap.size)] 95)) := ((Below.refl _ _).alloc (Nat.le_refl _) _).alloc (by simp) _
    refine ⟨SY2.out.below hb3, HMT.out.kept (row := none) (only_of_below hb3 none) (by simp), HLB.out.below hb3 HLB.out.lt, by simpa using Blk.new (W2.alloc (.map #[] 0)) 95 #[.map (some W2.heap.size)], (World.mapv.made (val := Value.bool) (q := .u64) W2 Try.prog 22 (fun _ => True)).kept (row := none) (World.grownBy_alloc _ (.cells #[.map (some W2.heap.size)] 95) none) (by simp), by omega, HBL.out.trans (hb3.mono HBL.out.size), fun x t hx => ?_, ⟨rfl, by omega, by omega, hgl2, hbl2, rfl⟩, Nat.le_refl _⟩
    have h1 := howO x t hx
    have h2 := SY2.out.ol x t hx
    exact ⟨by omega, by omega, by omega⟩
  clear SY2 HMT HLB HBL hgO hbO howO hgb H4 HO hgl2 hbl2 hws
  go_wp2_with fail
  obtain ⟨MB, hMB⟩ : ∃ MB, W2.heap.size = MB := ⟨_, rfl⟩
  rw [hMB] at R0
  simp only [hMB]
  generalize (W2.alloc (.map #[] 0)).alloc (.cells #[.map (some MB)] 95) = W3 at *
  clear hMB hmm hmf
  go_loopg [39] n5 (fun r s39 wr => ∃ (i cnt : Nat) (own : Nat → Option Nat) (ms : List (Nat × Option Nat)) (mk : Mk), r + i = n5 ∧ s39 = .int .i64 (i : Int) ∧ cnt ≤ i * 100001 ∧ (okL gr now last (if i = 0 then none else (R[i - 1]?).map (·.tag)) (R.drop i) mk).isSome = B ∧ Rs w wr gr now last g b n w.heap.size (MB + 1) MB i own ms (insA (tgR (R.take i))) cnt mk)
  case atStart => exact ⟨0, 0, own, [], [], rfl, rfl, by omega, by rw [List.drop_zero]; exact HB.out, R0.out⟩
  case round =>
    clear R0
    obtain ⟨i, cnt, own, ms, mk, hi', rfl, hcnt, hok, rs⟩ := hrel
    have HI := Lib.hid hi'
    have hil : i ≤ n5 := by omega
    have HOK := Lib.hid hok
    have RS := Lib.hid rs
    clear hi' hok rs
    by_cases hlt : i < n5
    · obtain ⟨x, hx⟩ : ∃ x, R[i]? = some x := ⟨R[i]'(by rw [← HN5.out]; exact hlt), List.getElem?_eq_getElem _⟩
      have hdrop : R.drop i = x :: R.drop (i + 1) := by
        obtain ⟨hi, rfl⟩ := List.getElem?_eq_some_iff.1 hx
        exact List.drop_eq_getElem_cons hi
      rw [hdrop] at HOK
      obtain ⟨pv, hpv⟩ : ∃ pv, pv = (if i = 0 then none else (R[i - 1]?).map (·.tag)) := ⟨_, rfl⟩
      rw [← hpv] at HOK
      have hxm := List.mem_of_getElem? hx
      have hxn := HR.out.nb x hxm
      have hxl := HR.out.small.2 x hxm
      have hxl2 := HSN.out x hxm
      have HXS := Lib.hid (HR.out.soft x hxm)
      obtain ⟨g9, o9, c9, he9, _, hg9, hc9⟩ := RowAt.at HR.out.row (by rw [← HN5.out]; omega)
      injection he9 with r1 r2 r3
      subst r1
      obtain ⟨d0, d1, d2⟩ := rwCells_get hx
      have t0 := (RS.out.bel.cell (p := ⟨g9, o9 + i * 3, none⟩) hg9).trans (hc9 _ _ d0)
      have t1 := (RS.out.bel.cell (p := ⟨g9, o9 + (i * 3 + 1), none⟩) hg9).trans (hc9 _ _ d1)
      have t2 := (RS.out.bel.cell (p := ⟨g9, o9 + (i * 3 + 2), none⟩) hg9).trans (hc9 _ _ d2)
      rw [← Nat.add_assoc] at t1 t2
      have hpg : (pv = none ∧ decide (0 < i) = false ∧ decide ((0 : Int) < (i : Int)) = false) ∨ (∃ (i1 : Nat) (pt : Int), i = i1 + 1 ∧ pv = some pt ∧ decide (0 < i) = true ∧ decide ((0 : Int) < (i : Int)) = true ∧ (i : Int) - 1 = (i1 : Int) ∧ ∀ w', Below w.heap.size w w' → w'.cell? ⟨g9, o9 + i1 * 3, none⟩ = some (.int .i64 pt)) := by
        rcases Nat.eq_zero_or_pos i with h0 | h0
        · left
          exact ⟨by rw [hpv, if_pos h0], decide_eq_false (by omega), decide_eq_false (by omega)⟩
        · right
          obtain ⟨y, hy⟩ : ∃ y, R[i - 1]? = some y := ⟨R[i - 1]'(by rw [← HN5.out]; omega), List.getElem?_eq_getElem _⟩
          exact ⟨i - 1, y.tag, by omega, by rw [hpv, if_neg (by omega), hy]; rfl, decide_eq_true h0, decide_eq_true (by omega), by omega, fun w' hb => (hb.cell (p := ⟨g9, o9 + (i - 1) * 3, none⟩) hg9).trans (hc9 _ _ (rwCells_get hy).1)⟩
      have HPG := Lib.hid hpg
      have HX := Lib.hid hx
      clear hpg hpv d0 d1 d2 r2 r3 hc9 hx hdrop hxm
      obtain ⟨xt, ⟨xh, xs⟩, xv⟩ := x
      dsimp only at hxn hxl hxl2 HXS t0 t1 t2
      obtain ⟨xp, xc, rfl, _⟩ := HXS.out.form
      obtain ⟨kx, hkx⟩ : ∃ kx, kx = xs.length := ⟨_, rfl⟩
      rw [← hkx] at hxl hxl2 HXS t2 HX HOK
      have HKX := Lib.hid hkx
      clear hkx
      go_upto_region 10 with (fail)
      have RX := Lib.hid (RS.out.below ((Below.refl wr.heap.size wr).alloc (Nat.le_refl _) (.cells #[.int .i64 xt, .int .u64 (xh : Int), .slice xp kx xc] 43)))
      have XB := Lib.hid (Blk.new wr 43 #[.int .i64 xt, .int .u64 (xh : Int), .slice xp kx xc])
      have hXM : some wr.heap.size ≠ some MB := fun e => by have h1 := Option.some.inj e; have := RS.out.mb.lt; omega
      have hMX : MB + 1 < wr.heap.size := RS.out.sb.lt
      obtain ⟨X, hXe⟩ : ∃ X, wr.heap.size = X := ⟨_, rfl⟩
      rw [hXe] at XB hXM hMX
      simp only [hXe]
      have HXE := Lib.hid hXe
      have HBX := Lib.hid ((Below.refl wr.heap.size wr).alloc (Nat.le_refl _) (.cells #[.int .i64 xt, .int .u64 (xh : Int), .slice xp kx xc] 43))
      clear hXe t0 t1 t2
      generalize wr.alloc (.cells #[.int .i64 xt, .int .u64 (xh : Int), .slice xp kx xc] 43) = W4 at *
      have hcb := hcnt
      go_cut [86] (fun s86 wx => ∃ (C : Bool) (cnt2 : Nat) (mk2 : Mk), s86 = .bool C ∧ cnt2 ≤ cnt + 1 ∧ Rs w wx gr now last g b n w.heap.size (MB + 1) MB i own ms (insA (tgR (R.take i))) cnt2 mk2 ∧ Blk wx X 43 #[.int .i64 xt, .int .u64 (xh : Int), .slice xp kx xc] ∧ (C = true → okE gr now last pv ⟨xt, ⟨xh, xs⟩, .slice xp kx xc⟩ mk = none) ∧ (C = false → okE gr now last pv ⟨xt, ⟨xh, xs⟩, .slice xp kx xc⟩ mk = okS gr now last xh none xs mk2))
      case first => as_aux_lemma =>
        have x0 := Blk.cell XB.out 0
        have x1 := Blk.cell XB.out 1
        have x2 := Blk.cell XB.out 2
        simp only [List.getElem?_toArray, List.getElem?_cons_zero, List.getElem?_cons_succ] at x0 x1 x2
        have HC : Hid (∀ k : Nat, Calls Try.prog 39 #[.pointer (some ⟨g, 0, none⟩), .int .i64 xt] (W4.drewN k) fun e w' => e = .returned (.int .i64 (if tagB xt = true then 0 else 2)) ∧ w' = W4.drewN k) := fun k => calls_flip (check_any (RX.out.sy.bk.drewN k) xt)
        cases hT : tagB xt
        · rw [hT, if_neg (by decide)] at HC
          have JU := Lib.hid (okE_bad (gr := gr) (now := now) (last := last) (m := mk) (entB_tag (prev := pv) (x := ⟨xt, ⟨xh, xs⟩, .slice xp kx xc⟩) hT))
          clear hT
          go_quiet ((go_at_call 39; refine Calls.quiet_of_same (HC.out _)))
          go_wp2_with fail
          go_meet
          exact ⟨true, cnt, mk, rfl, Nat.le_succ _, RX.out.below (below_drewN (Below.refl _ _) _), XB.out.drewN _, fun _ => JU.out, fun h => by cases h⟩
        · rw [hT, if_pos rfl] at HC
          have HT := Lib.hid hT
          clear hT
          rcases HPG.out with ⟨hpv, hg0, hg1⟩ | ⟨i1, pt, hi1, hpv, hg0, hg1, hg2, hpc⟩
          · have hPV := Lib.hid (show ∀ t, pv = some t → t < xt from fun t ht => by rw [hpv] at ht; cases ht)
            clear hpv HPG
            by_cases hh : xh = 0
            · have e1 : ((xh : Int) == 0) = true := by rw [hh]; rfl
              have e2 : decide ((0 : Int) < (xh : Int)) = false := decide_eq_false (by omega)
              have e2n : decide (0 < xh) = false := decide_eq_false (by omega)
              by_cases hk : kx = 0
              · have e3 : ((kx : Int) == 0) = true := by rw [hk]; rfl
                have JU := Lib.hid (okE_bad (gr := gr) (now := now) (last := last) (m := mk) (entB_empty (prev := pv) (x := ⟨xt, ⟨xh, xs⟩, .slice xp kx xc⟩) hh (List.eq_nil_of_length_eq_zero (by rw [← HKX.out]; exact hk))))
                have HH := Lib.hid hh
                clear hh hk
                go_quiet ((go_at_call 39; refine Calls.quiet_of_same (HC.out _)))
                go_wp2_with fail
                go_meet
                exact ⟨true, cnt, mk, rfl, Nat.le_succ _, RX.out.below (below_drewN (Below.refl _ _) _), XB.out.drewN _, fun _ => JU.out, fun h => by cases h⟩
              · have e3 : ((kx : Int) == 0) = false := by simp; omega
                have JU := Lib.hid (okE_zero (gr := gr) (now := now) (last := last) (m := mk) (entB_good (prev := pv) (x := ⟨xt, ⟨xh, xs⟩, .slice xp kx xc⟩) HT.out hPV.out (.inr (fun e => hk (by rw [HKX.out]; exact congrArg List.length e)))) hh)
                have HH := Lib.hid hh
                clear hh hk
                go_quiet ((go_at_call 39; refine Calls.quiet_of_same (HC.out _)))
                go_wp2_with fail
                go_meet
                exact ⟨false, cnt, mk, rfl, Nat.le_succ _, RX.out.below (below_drewN (Below.refl _ _) _), XB.out.drewN _, (fun h => by cases h), (fun _ => by rw [JU.out, HH.out])⟩
            · have e1 : ((xh : Int) == 0) = false := by simp; omega
              have e2 : decide ((0 : Int) < (xh : Int)) = true := decide_eq_true (by omega)
              have e2n : decide (0 < xh) = true := decide_eq_true (by omega)
              have HH := Lib.hid hh
              have hxh := hxn.1
              have RXd := Lib.hid (RX.out.below ((Below.refl _ _).drew : Below W4.heap.size W4 W4.drew))
              have HFC := Lib.hid (RXd.out.fine (by omega) xh hxh)
              obtain ⟨F, hF⟩ : ∃ F, F = fineM mk last xh := ⟨_, rfl⟩
              rw [← hF] at HFC
              have HF := Lib.hid hF
              clear hh hF
              refine wp_region_qtail 39 (by kernel_rfl) (by kernel_rfl) ?_
              simp only [List.take_succ_cons, List.take_zero, List.drop_succ_cons, List.drop_zero]
              repeat (go_big_quiet_step (fail))
              go_big_quiet_want
              go_big_quiet_op
              refine ⟨_, HC.out 1, ?_⟩
              go_big_quiet_on
              repeat (go_big_quiet_step (fail))
              refine wpQuiet_nil ?_
              go_wp2_with (go_at_call 52; refine HFC.out.mono ?_; rintro e w7 ⟨rfl, r7, g7⟩; have RX7 := Lib.hid r7; have XB7 := Lib.hid (Blk.grown (Blk.drewN XB.out 1) g7 hXM); have y0 := Blk.cell XB7.out 0; have y1 := Blk.cell XB7.out 1; have y2 := Blk.cell XB7.out 2; simp only [List.getElem?_toArray, List.getElem?_cons_zero, List.getElem?_cons_succ] at y0 y1 y2; clear r7 g7)
              skip
              all_goals go_meet
              all_goals
                cases F
                · exact ⟨true, cnt + 1, mput mk xh true, rfl, Nat.le_refl _, RX7.out, XB7.out, fun _ => okE_not (x := ⟨xt, ⟨xh, xs⟩, .slice xp kx xc⟩) HH.out HF.out.symm, fun h => by cases h⟩
                · exact ⟨false, cnt + 1, mput mk xh true, rfl, Nat.le_refl _, RX7.out, XB7.out, (fun h => by cases h), fun _ => okE_fine (entB_good (prev := pv) (x := ⟨xt, ⟨xh, xs⟩, .slice xp kx xc⟩) HT.out hPV.out (.inl HH.out)) HH.out HF.out.symm⟩
          · have HPC := Lib.hid hpc
            have p4 := hpc _ RX.out.bel
            have HI1 := Lib.hid hi1
            have hi2 : i1 < n5 := by omega
            have HPVE := Lib.hid hpv
            have hwi : IntKind.i64.wrap (i1 : Int) = (i1 : Int) := IntWalk.i64_in _ (by have := HR.out.small.1; have := HN5.out; omega)
            clear hpc hi1 HPG hpv
            by_cases hpt : xt ≤ pt
            · have e0 : decide (xt ≤ pt) = true := decide_eq_true hpt
              have JU := Lib.hid (okE_bad (gr := gr) (now := now) (last := last) (m := mk) (entB_prev (x := ⟨xt, ⟨xh, xs⟩, .slice xp kx xc⟩) HPVE.out hpt))
              clear hpt
              go_quiet ((go_at_call 39; refine Calls.quiet_of_same (HC.out _)))
              go_wp2_with fail
              go_meet
              exact ⟨true, cnt, mk, rfl, Nat.le_succ _, RX.out.below (below_drewN (Below.refl _ _) _), XB.out.drewN _, fun _ => JU.out, fun h => by cases h⟩
            · have e0 : decide (xt ≤ pt) = false := decide_eq_false hpt
              have hPV := Lib.hid (show ∀ t, pv = some t → t < xt from fun t ht => by rw [HPVE.out] at ht; cases ht; omega)
              clear hpt
              by_cases hh : xh = 0
              · have e1 : ((xh : Int) == 0) = true := by rw [hh]; rfl
                have e2 : decide ((0 : Int) < (xh : Int)) = false := decide_eq_false (by omega)
                have e2n : decide (0 < xh) = false := decide_eq_false (by omega)
                by_cases hk : kx = 0
                · have e3 : ((kx : Int) == 0) = true := by rw [hk]; rfl
                  have JU := Lib.hid (okE_bad (gr := gr) (now := now) (last := last) (m := mk) (entB_empty (prev := pv) (x := ⟨xt, ⟨xh, xs⟩, .slice xp kx xc⟩) hh (List.eq_nil_of_length_eq_zero (by rw [← HKX.out]; exact hk))))
                  have HH := Lib.hid hh
                  clear hh hk
                  go_quiet ((go_at_call 39; refine Calls.quiet_of_same (HC.out _)))
                  go_wp2_with fail
                  go_meet
                  exact ⟨true, cnt, mk, rfl, Nat.le_succ _, RX.out.below (below_drewN (Below.refl _ _) _), XB.out.drewN _, fun _ => JU.out, fun h => by cases h⟩
                · have e3 : ((kx : Int) == 0) = false := by simp; omega
                  have JU := Lib.hid (okE_zero (gr := gr) (now := now) (last := last) (m := mk) (entB_good (prev := pv) (x := ⟨xt, ⟨xh, xs⟩, .slice xp kx xc⟩) HT.out hPV.out (.inr (fun e => hk (by rw [HKX.out]; exact congrArg List.length e)))) hh)
                  have HH := Lib.hid hh
                  clear hh hk
                  go_quiet ((go_at_call 39; refine Calls.quiet_of_same (HC.out _)))
                  go_wp2_with fail
                  go_meet
                  exact ⟨false, cnt, mk, rfl, Nat.le_succ _, RX.out.below (below_drewN (Below.refl _ _) _), XB.out.drewN _, (fun h => by cases h), (fun _ => by rw [JU.out, HH.out])⟩
              · have e1 : ((xh : Int) == 0) = false := by simp; omega
                have e2 : decide ((0 : Int) < (xh : Int)) = true := decide_eq_true (by omega)
                have e2n : decide (0 < xh) = true := decide_eq_true (by omega)
                have HH := Lib.hid hh
                have hxh := hxn.1
                have RXd := Lib.hid (RX.out.below ((Below.refl _ _).drew : Below W4.heap.size W4 W4.drew))
                have HFC := Lib.hid (RXd.out.fine (by omega) xh hxh)
                obtain ⟨F, hF⟩ : ∃ F, F = fineM mk last xh := ⟨_, rfl⟩
                rw [← hF] at HFC
                have HF := Lib.hid hF
                clear hh hF
                refine wp_region_qtail 39 (by kernel_rfl) (by kernel_rfl) ?_
                simp only [List.take_succ_cons, List.take_zero, List.drop_succ_cons, List.drop_zero]
                repeat (go_big_quiet_step (fail))
                go_big_quiet_want
                go_big_quiet_op
                refine ⟨_, HC.out 1, ?_⟩
                go_big_quiet_on
                repeat (go_big_quiet_step (fail))
                refine wpQuiet_nil ?_
                go_wp2_with (go_at_call 52; refine HFC.out.mono ?_; rintro e w7 ⟨rfl, r7, g7⟩; have RX7 := Lib.hid r7; have XB7 := Lib.hid (Blk.grown (Blk.drewN XB.out 1) g7 hXM); have y0 := Blk.cell XB7.out 0; have y1 := Blk.cell XB7.out 1; have y2 := Blk.cell XB7.out 2; simp only [List.getElem?_toArray, List.getElem?_cons_zero, List.getElem?_cons_succ] at y0 y1 y2; have p7 := HPC.out _ RX7.out.bel; clear r7 g7)
                skip
                all_goals go_meet
                all_goals
                  cases F
                  · exact ⟨true, cnt + 1, mput mk xh true, rfl, Nat.le_refl _, RX7.out, XB7.out, fun _ => okE_not (x := ⟨xt, ⟨xh, xs⟩, .slice xp kx xc⟩) HH.out HF.out.symm, fun h => by cases h⟩
                  · exact ⟨false, cnt + 1, mput mk xh true, rfl, Nat.le_refl _, RX7.out, XB7.out, (fun h => by cases h), fun _ => okE_fine (entB_good (prev := pv) (x := ⟨xt, ⟨xh, xs⟩, .slice xp kx xc⟩) HT.out hPV.out (.inl HH.out)) HH.out HF.out.symm⟩
      case rest => as_aux_lemma =>
        obtain ⟨C, cnt2, mk2, rfl, hc2, rs2, xb2, hct, hcf⟩ := hcut
        have HOK2 := HOK.out
        rw [okL_cons] at HOK2
        cases C
        · have HE := Lib.hid (hcf rfl)
          have RS2 := Lib.hid rs2
          have XB2 := Lib.hid xb2
          have x0 := Blk.cell xb2 0
          have x1 := Blk.cell xb2 1
          have x2 := Blk.cell xb2 2
          simp only [List.getElem?_toArray, List.getElem?_cons_zero, List.getElem?_cons_succ] at x0 x1 x2
          have HOKB := Lib.hid HOK2
          clear hct hcf rs2 xb2 HOK2 HOK RX XB RS HPG
          have RB := Lib.hid (RS2.out.below ((Below.refl wc.heap.size wc).alloc (Nat.le_refl _) (.cells #[.int .u64 (xh : Int), .int .u64 0] 52)))
          have XBB := Lib.hid (XB2.out.alloc (.cells #[.int .u64 (xh : Int), .int .u64 0] 52))
          have BB := Lib.hid (Blk.new wc 52 #[.int .u64 (xh : Int), .int .u64 0])
          have y0 := Blk.cell XBB.out 0
          have y1 := Blk.cell XBB.out 1
          have y2 := Blk.cell XBB.out 2
          simp only [List.getElem?_toArray, List.getElem?_cons_zero, List.getElem?_cons_succ] at y0 y1 y2
          go_wp2_with fail
          have hBM : some wc.heap.size ≠ some MB := fun e => by have h1 := Option.some.inj e; have := RS2.out.mb.lt; omega
          have hBX : wc.heap.size ≠ X := by have := XB2.out.lt; omega
          have hBS : MB + 1 < wc.heap.size := RS2.out.sb.lt
          have HBO : Hid (∀ x t, own x = some t → x < wc.heap.size) := RS2.out.sy.ol
          have HBC := Lib.hid ((Below.refl wc.heap.size wc).alloc (Nat.le_refl _) (.cells #[.int .u64 (xh : Int), .int .u64 0] 52))
          obtain ⟨BN, hBN⟩ : ∃ BN, wc.heap.size = BN := ⟨_, rfl⟩
          rw [hBN] at BB hBM hBX hBS HBO
          simp only [hBN]
          clear hBN x0 x1 x2 y0 y1 y2 RS2 XB2
          generalize wc.alloc (.cells #[.int .u64 (xh : Int), .int .u64 0] 52) = W6 at *
          obtain ⟨GO, hGO⟩ : ∃ GO, gk = GO := ⟨_, rfl⟩
          have HGO := Lib.hid hGO
          clear hGO
          have HE0 : Hid (okE gr now last pv ⟨xt, ⟨xh, xs⟩, .slice xp kx xc⟩ mk = okS gr now last xh none (xs.drop 0) mk2) := by unfold Hid; rw [List.drop_zero]; exact HE.out
          go_loopg [93] kx (fun r s93 wr => ∃ (k cnt3 bst bat : Nat) (bt : Option Nat) (mk3 : Mk), r + k = kx ∧ s93 = .int .i64 (k : Int) ∧ cnt3 ≤ cnt + 1 + k ∧ Rs w wr gr now last g b n w.heap.size (MB + 1) MB i own ms (insA (tgR (R.take i))) cnt3 mk3 ∧ Blk wr X 43 #[.int .i64 xt, .int .u64 (xh : Int), .slice xp kx xc] ∧ Blk wr BN 52 #[.int .u64 (bst : Int), .int .u64 (bat : Int)] ∧ (k = 0 → bt = none) ∧ (0 < k → bt = some bat) ∧ okE gr now last pv ⟨xt, ⟨xh, xs⟩, .slice xp kx xc⟩ mk = okS gr now last bst bt (xs.drop k) mk3)
          case atStart => exact ⟨0, cnt2, xh, 0, none, mk2, rfl, rfl, by omega, RB.out, XBB.out, BB.out, fun _ => rfl, fun h => by omega, HE0.out⟩
          case round => as_aux_lemma =>
            clear RB XBB BB HE0 HE HBC
            obtain ⟨k, cnt3, bst, bat, bt, mk3, hk', rfl, hc3, rs3, xb3, bb3, hb0, hb1, he3⟩ := hrel
            have HKI := Lib.hid hk'
            have hkl : k ≤ kx := by omega
            have HB0 := Lib.hid hb0
            have HB1 := Lib.hid hb1
            have HE3 := Lib.hid he3
            have RS3 := Lib.hid rs3
            have XB3 := Lib.hid xb3
            have BB3 := Lib.hid bb3
            clear hk' hb0 hb1 he3 rs3 xb3 bb3
            by_cases hklt : k < kx
            · obtain ⟨y, hy⟩ : ∃ y, xs[k]? = some y := ⟨xs[k]'(by rw [← HKX.out]; exact hklt), List.getElem?_eq_getElem _⟩
              have hdr : xs.drop k = y :: xs.drop (k + 1) := by
                obtain ⟨hi, rfl⟩ := List.getElem?_eq_some_iff.1 hy
                exact List.drop_eq_getElem_cons hi
              rw [hdr, okS_cons] at HE3
              obtain ⟨hys, hyt⟩ := hxn.2 y (List.mem_of_getElem? hy)
              obtain ⟨g6, o6, c6, he6, _, hg6, hcell6⟩ := RowAt.at (HXS.out.below RS3.out.bel) (by rw [← HKX.out]; omega)
              injection he6 with q4 q5 q6
              subst q4
              obtain ⟨e0', e1'⟩ := softCells_get hy
              have f0 := hcell6 _ _ e0'
              have f1 := hcell6 _ _ e1'
              rw [← Nat.add_assoc] at f1
              clear hy e0' e1' hcell6 q5 q6 hdr
              obtain ⟨ys, yt⟩ := y
              dsimp only at f0 f1 hys hyt
              have RY0 := RS3.out.below ((Below.refl wr.heap.size wr).alloc (Nat.le_refl _) (.cells #[.int .u64 (ys : Int), .int .u64 (yt : Int)] 52))
              have XBY0 := XB3.out.alloc (.cells #[.int .u64 (ys : Int), .int .u64 (yt : Int)] 52)
              have BBY0 := BB3.out.alloc (.cells #[.int .u64 (ys : Int), .int .u64 (yt : Int)] 52)
              have YBY0 := Blk.new wr 52 #[.int .u64 (ys : Int), .int .u64 (yt : Int)]
              have hYM : some wr.heap.size ≠ some MB := fun e => by have h1 := Option.some.inj e; have := RS3.out.mb.lt; omega
              have hYB : wr.heap.size ≠ BN := by have := BB3.out.lt; omega
              go_upto_region 16 with (fail)
              obtain ⟨Y, hYe⟩ : ∃ Y, wr.heap.size = Y := ⟨_, rfl⟩
              rw [hYe] at YBY0 hYM hYB
              simp only [hYe]
              clear hYe f0 f1
              generalize wr.alloc (.cells #[.int .u64 (ys : Int), .int .u64 (yt : Int)] 52) = W5 at *
              have RYH := Lib.hid RY0
              have XBH := Lib.hid XBY0
              have BBH := Lib.hid BBY0
              have YBH := Lib.hid YBY0
              clear RY0 XBY0 BBY0 YBY0 RS3 XB3 BB3
              go_cut [131] (fun s131 wx => ∃ (C : Bool) (cnt4 : Nat) (mk4 : Mk), s131 = .bool C ∧ cnt4 ≤ cnt3 + 1 ∧ Rs w wx gr now last g b n w.heap.size (MB + 1) MB i own ms (insA (tgR (R.take i))) cnt4 mk4 ∧ Blk wx X 43 #[.int .i64 xt, .int .u64 (xh : Int), .slice (some ⟨g6, o6, none⟩) kx xc] ∧ Blk wx BN 52 #[.int .u64 (bst : Int), .int .u64 (bat : Int)] ∧ Blk wx Y 52 #[.int .u64 (ys : Int), .int .u64 (yt : Int)] ∧ (C = true → sofB gr now last bst bt ⟨ys, yt⟩ mk3 = false) ∧ (C = false → sofB gr now last bst bt ⟨ys, yt⟩ mk3 = true ∧ mk4 = mput mk3 ys true))
              case first => as_aux_lemma =>
                have RY := RYH.out
                have XBY := XBH.out
                have BBY := BBH.out
                have YBY := YBH.out
                have a0 := Blk.cell YBY 0
                have a1 := Blk.cell YBY 1
                have b0 := Blk.cell BBY 0
                have b1 := Blk.cell BBY 1
                simp only [List.getElem?_toArray, List.getElem?_cons_zero, List.getElem?_cons_succ] at a0 a1 b0 b1
                by_cases h1 : ys ≤ bst
                · have e1 : decide ((ys : Int) ≤ (bst : Int)) = true := decide_eq_true (by omega)
                  have e1n : decide (ys ≤ bst) = true := decide_eq_true (by omega)
                  have hso : Hid (sofB gr now last bst bt ⟨ys, yt⟩ mk3 = false) := by
                    unfold Hid
                    rw [sofB_is]
                    show (decide (bst < ys) && bt.all (fun t => decide (t < yt)) && decide (yt ≤ now) && !overB gr now yt && fineM mk3 last ys) = _
                    rw [decide_eq_false (by omega : ¬ bst < ys)]
                    rfl
                  clear h1
                  go_wp2_with fail
                  go_meet
                  exact ⟨true, cnt3, mk3, rfl, Nat.le_succ _, RY, XBY, BBY, YBY, fun _ => hso.out, fun h => by cases h⟩
                · have e1 : decide ((ys : Int) ≤ (bst : Int)) = false := decide_eq_false (by omega)
                  have e1n : decide (ys ≤ bst) = false := decide_eq_false (by omega)
                  have D1 := Lib.hid (show bst < ys by omega)
                  clear h1
                  rcases Nat.eq_zero_or_pos k with hk0 | hk0
                  · have e2 : decide ((0 : Int) < (k : Int)) = false := decide_eq_false (by omega)
                    have e2n : decide (0 < k) = false := decide_eq_false (by omega)
                    have HBT := Lib.hid (HB0.out hk0)
                    clear hk0
                    by_cases h3 : now < yt
                    · have e3 : decide ((now : Int) < (yt : Int)) = true := decide_eq_true (by omega)
                      have e3n : decide (now < yt) = true := decide_eq_true (by omega)
                      have hso : Hid (sofB gr now last bst bt ⟨ys, yt⟩ mk3 = false) := by
                        unfold Hid
                        rw [sofB_is]
                        show (decide (bst < ys) && bt.all (fun t => decide (t < yt)) && decide (yt ≤ now) && !overB gr now yt && fineM mk3 last ys) = _
                        rw [decide_eq_false (by omega : ¬ yt ≤ now)]
                        simp
                      clear h3
                      go_wp2_with fail
                      go_meet
                      exact ⟨true, cnt3, mk3, rfl, Nat.le_succ _, RY, XBY, BBY, YBY, fun _ => hso.out, fun h => by cases h⟩
                    · have e3 : decide ((now : Int) < (yt : Int)) = false := decide_eq_false (by omega)
                      have e3n : decide (now < yt) = false := decide_eq_false (by omega)
                      have D3 := Lib.hid (show yt ≤ now by omega)
                      clear h3
                      have HOV := Lib.hid (over_any RY.sy.bk ys yt hyt)
                      have hov : ∃ OV, OV = overB gr now yt := ⟨_, rfl⟩
                      obtain ⟨OV, hov⟩ := hov
                      rw [← hov] at HOV
                      have HOVE := Lib.hid hov
                      clear hov
                      cases OV
                      · have HFC := Lib.hid (fun (W : World) (hb : Below W5.heap.size W5 W) => (RY.below hb).fine (by omega) ys hys)
                        obtain ⟨F, hF⟩ : ∃ F, F = fineM mk3 last ys := ⟨_, rfl⟩
                        rw [← hF] at HFC
                        have HF := Lib.hid hF
                        clear hF
                        go_wp2_with (first
                          | (go_at_call 53; refine HOV.out.mono ?_; rintro e w6 ⟨rfl, b6⟩; have Y6 := Blk.below YBY b6 YBY.lt; have a0 := Blk.cell Y6 0; have a1 := Blk.cell Y6 1; simp only [List.getElem?_toArray, List.getElem?_cons_zero, List.getElem?_cons_succ] at a0 a1; have B6 := Lib.hid b6; clear b6)
                          | (go_at_call 52; refine (HFC.out _ B6.out).mono ?_; rintro e w7 ⟨rfl, r7, g7⟩; have R7 := Lib.hid r7; have G7 := Lib.hid g7; clear r7 g7))
                        go_meet
                        have hX7 := Blk.grown (XBY.below B6.out XBY.lt) G7.out hXM
                        have hB7 := Blk.grown (BBY.below B6.out BBY.lt) G7.out hBM
                        have hY7 := Blk.grown (YBY.below B6.out YBY.lt) G7.out hYM
                        have hso : sofB gr now last bst bt ⟨ys, yt⟩ mk3 = F := by
                          rw [sofB_is, HF.out]
                          show (decide (bst < ys) && bt.all (fun t => decide (t < yt)) && decide (yt ≤ now) && !overB gr now yt && fineM mk3 last ys) = _
                          rw [← HOVE.out, decide_eq_true D1.out, decide_eq_true D3.out, HBT.out]
                          rfl
                        cases F
                        · exact ⟨true, cnt3 + 1, mput mk3 ys true, rfl, Nat.le_refl _, R7.out, hX7, hB7, hY7, fun _ => hso, fun h => by cases h⟩
                        · exact ⟨false, cnt3 + 1, mput mk3 ys true, rfl, Nat.le_refl _, R7.out, hX7, hB7, hY7, (fun h => by cases h), fun _ => ⟨hso, rfl⟩⟩
                      · have hso : Hid (sofB gr now last bst bt ⟨ys, yt⟩ mk3 = false) := by
                          unfold Hid
                          rw [sofB_is]
                          show (decide (bst < ys) && bt.all (fun t => decide (t < yt)) && decide (yt ≤ now) && !overB gr now yt && fineM mk3 last ys) = _
                          rw [← HOVE.out]
                          simp
                        go_wp2_with (go_at_call 53; refine HOV.out.mono ?_; rintro e w6 ⟨rfl, b6⟩; have B6 := Lib.hid b6; clear b6)
                        go_meet
                        exact ⟨true, cnt3, mk3, rfl, Nat.le_succ _, RY.below B6.out, XBY.below B6.out XBY.lt, BBY.below B6.out BBY.lt, YBY.below B6.out YBY.lt, fun _ => hso.out, fun h => by cases h⟩
                  · have e2 : decide ((0 : Int) < (k : Int)) = true := decide_eq_true (by omega)
                    have e2n : decide (0 < k) = true := decide_eq_true hk0
                    have HBT := Lib.hid (HB1.out hk0)
                    clear hk0
                    by_cases h2 : yt ≤ bat
                    · have e4 : decide ((yt : Int) ≤ (bat : Int)) = true := decide_eq_true (by omega)
                      have e4n : decide (yt ≤ bat) = true := decide_eq_true (by omega)
                      have hso : Hid (sofB gr now last bst bt ⟨ys, yt⟩ mk3 = false) := by
                        unfold Hid
                        rw [sofB_is, HBT.out]
                        show (decide (bst < ys) && decide (bat < yt) && decide (yt ≤ now) && !overB gr now yt && fineM mk3 last ys) = _
                        rw [decide_eq_false (by omega : ¬ bat < yt)]
                        simp
                      clear h2
                      go_wp2_with fail
                      go_meet
                      exact ⟨true, cnt3, mk3, rfl, Nat.le_succ _, RY, XBY, BBY, YBY, fun _ => hso.out, fun h => by cases h⟩
                    · have e4 : decide ((yt : Int) ≤ (bat : Int)) = false := decide_eq_false (by omega)
                      have e4n : decide (yt ≤ bat) = false := decide_eq_false (by omega)
                      have D2 := Lib.hid (show (some bat).all (fun t => decide (t < yt)) = true from decide_eq_true (by omega))
                      clear h2
                      by_cases h3 : now < yt
                      · have e3 : decide ((now : Int) < (yt : Int)) = true := decide_eq_true (by omega)
                        have e3n : decide (now < yt) = true := decide_eq_true (by omega)
                        have hso : Hid (sofB gr now last bst bt ⟨ys, yt⟩ mk3 = false) := by
                          unfold Hid
                          rw [sofB_is]
                          show (decide (bst < ys) && bt.all (fun t => decide (t < yt)) && decide (yt ≤ now) && !overB gr now yt && fineM mk3 last ys) = _
                          rw [decide_eq_false (by omega : ¬ yt ≤ now)]
                          simp
                        clear h3
                        go_wp2_with fail
                        go_meet
                        exact ⟨true, cnt3, mk3, rfl, Nat.le_succ _, RY, XBY, BBY, YBY, fun _ => hso.out, fun h => by cases h⟩
                      · have e3 : decide ((now : Int) < (yt : Int)) = false := decide_eq_false (by omega)
                        have e3n : decide (now < yt) = false := decide_eq_false (by omega)
                        have D3 := Lib.hid (show yt ≤ now by omega)
                        clear h3
                        have HOV := Lib.hid (over_any RY.sy.bk ys yt hyt)
                        have hov : ∃ OV, OV = overB gr now yt := ⟨_, rfl⟩
                        obtain ⟨OV, hov⟩ := hov
                        rw [← hov] at HOV
                        have HOVE := Lib.hid hov
                        clear hov
                        cases OV
                        · have HFC := Lib.hid (fun (W : World) (hb : Below W5.heap.size W5 W) => (RY.below hb).fine (by omega) ys hys)
                          obtain ⟨F, hF⟩ : ∃ F, F = fineM mk3 last ys := ⟨_, rfl⟩
                          rw [← hF] at HFC
                          have HF := Lib.hid hF
                          clear hF
                          go_wp2_with (first
                            | (go_at_call 53; refine HOV.out.mono ?_; rintro e w6 ⟨rfl, b6⟩; have Y6 := Blk.below YBY b6 YBY.lt; have a0 := Blk.cell Y6 0; have a1 := Blk.cell Y6 1; simp only [List.getElem?_toArray, List.getElem?_cons_zero, List.getElem?_cons_succ] at a0 a1; have B6 := Lib.hid b6; clear b6)
                            | (go_at_call 52; refine (HFC.out _ B6.out).mono ?_; rintro e w7 ⟨rfl, r7, g7⟩; have R7 := Lib.hid r7; have G7 := Lib.hid g7; clear r7 g7))
                          go_meet
                          have hX7 := Blk.grown (XBY.below B6.out XBY.lt) G7.out hXM
                          have hB7 := Blk.grown (BBY.below B6.out BBY.lt) G7.out hBM
                          have hY7 := Blk.grown (YBY.below B6.out YBY.lt) G7.out hYM
                          have hso : sofB gr now last bst bt ⟨ys, yt⟩ mk3 = F := by
                            rw [sofB_is, HF.out]
                            show (decide (bst < ys) && bt.all (fun t => decide (t < yt)) && decide (yt ≤ now) && !overB gr now yt && fineM mk3 last ys) = _
                            rw [← HOVE.out, decide_eq_true D1.out, decide_eq_true D3.out, HBT.out, D2.out]
                            rfl
                          cases F
                          · exact ⟨true, cnt3 + 1, mput mk3 ys true, rfl, Nat.le_refl _, R7.out, hX7, hB7, hY7, fun _ => hso, fun h => by cases h⟩
                          · exact ⟨false, cnt3 + 1, mput mk3 ys true, rfl, Nat.le_refl _, R7.out, hX7, hB7, hY7, (fun h => by cases h), fun _ => ⟨hso, rfl⟩⟩
                        · have hso : Hid (sofB gr now last bst bt ⟨ys, yt⟩ mk3 = false) := by
                            unfold Hid
                            rw [sofB_is]
                            show (decide (bst < ys) && bt.all (fun t => decide (t < yt)) && decide (yt ≤ now) && !overB gr now yt && fineM mk3 last ys) = _
                            rw [← HOVE.out]
                            simp
                          go_wp2_with (go_at_call 53; refine HOV.out.mono ?_; rintro e w6 ⟨rfl, b6⟩; have B6 := Lib.hid b6; clear b6)
                          go_meet
                          exact ⟨true, cnt3, mk3, rfl, Nat.le_succ _, RY.below B6.out, XBY.below B6.out XBY.lt, BBY.below B6.out BBY.lt, YBY.below B6.out YBY.lt, fun _ => hso.out, fun h => by cases h⟩
              case rest => as_aux_lemma =>
                obtain ⟨C, cnt4, mk4, rfl, hc4, rs4, xb4, bb4, yb4, hct, hcf⟩ := hcut
                cases C
                · obtain ⟨hs, rfl⟩ := hcf rfl
                  rw [hs, if_pos rfl] at HE3
                  have R4 := Lib.hid rs4
                  have X4 := Lib.hid xb4
                  have B4 := Lib.hid bb4
                  have a0 := Blk.cell yb4 0
                  have a1 := Blk.cell yb4 1
                  have b0 := Blk.cell bb4 0
                  have b1 := Blk.cell bb4 1
                  have bf := bb4.frozen
                  simp only [List.getElem?_toArray, List.getElem?_cons_zero, List.getElem?_cons_succ] at a0 a1 b0 b1
                  clear hct hcf rs4 xb4 bb4 yb4 RYH XBH BBH YBH hs
                  go_wp2_with fail
                  have ho := ((Only.refl (fun x => x = BN) wc).setCell1 (g := BN) (.inl rfl) 0 (.int .u64 (ys : Int))).setCell1 (g := BN) (.inl rfl) 1 (.int .u64 (yt : Int))
                  have hb := (B4.out.set_ 0 (.int .u64 (ys : Int))).set_ 1 (.int .u64 (yt : Int))
                  simp only [List.setIfInBounds_toArray, List.set_cons_zero, List.set_cons_succ] at hb
                  have R5 := Lib.hid (R4.out.apart hBS HBO.out ho)
                  have X5 := Lib.hid (X4.out.only ho (fun e => hBX e.symm))
                  have B5 := Lib.hid hb
                  clear ho hb
                  go_roundg (gk - 1)
                  case measure => have := HKI.out; omega
                  case rel => exact ⟨k + 1, cnt4, ys, yt, some yt, mput mk3 ys true, by have := HKI.out; omega, by go_num, by omega, R5.out, X5.out, B5.out, (fun h => by omega), (fun _ => rfl), HE3.out⟩
                · have HSB := Lib.hid (hct rfl)
                  have HBF : Hid (B = false) := by
                    unfold Hid
                    rw [← HOKB.out, HE3.out, if_neg (by rw [HSB.out]; simp)]
                    rfl
                  clear hcf hct
                  go_wp2_with fail
                  go_ret2
                  exact .inl ⟨HBF.out, rfl, rs4.bel⟩
            · obtain rfl : k = kx := by omega
              rw [List.drop_of_length_le (by rw [← HKX.out]; exact Nat.le_refl _)] at HE3
              have he3 : okE gr now last pv ⟨xt, ⟨xh, xs⟩, .slice xp k xc⟩ mk = some mk3 := HE3.out
              have hek := okE_ok he3
              have HOKN : Hid ((okL gr now last (some xt) (R.drop (i + 1)) mk3).isSome = B) := by
                unfold Hid
                rw [← HOKB.out, he3]
                rfl
              obtain ⟨t, ht, ht5, htn⟩ := tagB_nat hek.tag
              dsimp only at ht
              have HEK := Lib.hid hek
              subst ht
              have hwf := wf_i64 (t := t) (by omega)
              have D1 := Lib.hid (RS3.out.below ((Below.refl _ _).drew : Below wr.heap.size wr wr.drew))
              have XD1 := Lib.hid (XB3.out.drewN 1)
              have HSD := Lib.hid (HXS.out.below D1.out.bel)
              clear hek he3 HE3 HOKB BB3 HB0 HB1
              have x0 := Blk.cell XB3.out 0
              have x1 := Blk.cell XB3.out 1
              have x2 := Blk.cell XB3.out 2
              have q3 := RS3.out.sy.cells.2.2.2
              simp only [List.getElem?_toArray, List.getElem?_cons_zero, List.getElem?_cons_succ] at x0 x1 x2
              go_wp2_with fail
              have lo := D1.out.lo
              have hgl := D1.out.sy.bk.lt
              have hbl := D1.out.mt.lt
              have hXl := XD1.out.lt
              have hps : xs.length ≤ 1000000 := by rw [← HKX.out]; omega
              have hml : i < maxLen := by unfold maxLen; omega
              have hXb : ¬ X = b := by omega
              have hgb : ¬ g = b := D1.out.sy.ne
              have d0 := Blk.cell XD1.out 0
              have d1 := Blk.cell XD1.out 1
              have d2 := Blk.cell XD1.out 2
              have d3 := D1.out.sy.cells.2.2.2
              simp only [List.getElem?_toArray, List.getElem?_cons_zero, List.getElem?_cons_succ] at d0 d1 d2
              go_region_held3 (fun w' => w'.cell? ⟨g, 3, none⟩ = some (.map (some b)) ∧ w'.cell? ⟨X, 0, none⟩ = some (.int .i64 (t : Int)) ∧ w'.cell? ⟨X, 1, none⟩ = some (.int .u64 (xh : Int)) ∧ w'.cell? ⟨X, 2, none⟩ = some (.slice xp k xc)) (go_keep) ((go_at_call 41; refine (clone_any HSD.out hps).mono ?_; rintro e w4 ⟨v4, rfl, ow4, b4⟩; obtain ⟨p4, c4, rfl⟩ := own_form ow4; have D4 := Lib.hid (D1.out.below b4); have X4 := Lib.hid (XD1.out.below b4 XD1.out.lt); have k43 := D4.out.sy.cells.2.2.2; have k40 := Blk.cell X4.out 0; have k41 := Blk.cell X4.out 1; have k42 := Blk.cell X4.out 2; have a5 := (Below.refl w4.heap.size w4).alloc (Nat.le_refl _) (.cells #[.int .u64 (xh : Int), .slice p4 xs.length c4] 80); have D5 := Lib.hid (D4.out.below a5); have X5 := Lib.hid (X4.out.below a5 X4.out.lt); have k53 := D5.out.sy.cells.2.2.2; have k50 := Blk.cell X5.out 0; have k51 := Blk.cell X5.out 1; have k52 := Blk.cell X5.out 2; simp only [List.getElem?_toArray, List.getElem?_cons_zero, List.getElem?_cons_succ] at k40 k41 k42 k50 k51 k52; obtain ⟨w7, hrun0, m7, g7⟩ := D5.out.mt.update Try.underlying3 Try.underlying58 hml (a := some w4.heap.size) trivial (s := t) hwf; have hrun : Sem.run Try.prog (Instr.mapUpdate 58 (.map (some b)) (.int .i64 (t : Int)) (.pointer (some ⟨w4.heap.size, 0, none⟩))) (w4.alloc (.cells #[.int .u64 (xh : Int), .slice p4 xs.length c4] 80)) = .ok () w7 := hrun0; have ho7 : Only (fun x => x = b) (w4.alloc (.cells #[.int .u64 (xh : Int), .slice p4 xs.length c4] 80)) w7 := Only.of_grown (S := fun x => x = b) g7 rfl; have k73 := Blk.cell (D5.out.sy.bk.only ho7 hgb) 3; have k70 := Blk.cell (X5.out.only ho7 hXb) 0; have k71 := Blk.cell (X5.out.only ho7 hXb) 1; have k72 := Blk.cell (X5.out.only ho7 hXb) 2; simp only [List.getElem?_toArray, List.getElem?_cons_zero, List.getElem?_cons_succ] at k73 k70 k71 k72; have M7 := Lib.hid m7; have HO7 := Lib.hid ho7; have OW4 := Lib.hid ow4; have B4 := Lib.hid b4; clear ow4 b4 a5 m7 g7 ho7 hrun0))
              clear hrun d0 d1 d2 d3 x0 x1 x2 q3 k40 k41 k42 k43 k50 k51 k52 k53 k70 k71 k72 k73
              have hb4 := B4.out.size
              have a5 : Below w4.heap.size w4 (w4.alloc (.cells #[.int .u64 (xh : Int), .slice p4 xs.length c4] 80)) := (Below.refl w4.heap.size w4).alloc (Nat.le_refl _) _
              have h14 : Below wr.drew.heap.size wr.drew (w4.alloc (.cells #[.int .u64 (xh : Int), .slice p4 xs.length c4] 80)) := B4.out.trans (a5.mono hb4)
              have ho : Only (fun x => x = b) wr.drew w7 := (Only.of_below h14 (fun x => x = b)).trans HO7.out (fun z hz => .inl hz)
              have hnw : Blk w7 w4.heap.size 80 #[.int .u64 (xh : Int), .slice p4 xs.length c4] := (Blk.new w4 _ _).only HO7.out (by omega)
              have hrow : Mid w7 2 (.slice p4 xs.length c4) xs.length (softCells xs) := ((Mid.of_own OW4.out (by unfold maxLen; omega)).below a5).only HO7.out (fun z hz => by have := (OW4.out.lt z hz).1; omega)
              have hsteps := D1.out.step (w7 := w7) (y := ⟨t, ⟨xh, xs⟩⟩) ht5 HEK.out.ok (by show xs.length ≤ n; rw [← HKX.out]; exact hxl2) (by omega) ho M7.out hnw hrow ⟨hb4, hnw.lt⟩ (fun z hz => by have h5 := OW4.out.lt z hz; exact ⟨h5.1, by have := hnw.lt; omega, by omega⟩)
              have htk : insT (⟨t, ⟨xh, xs⟩⟩ : Tg) (insA (tgR (R.take i))) = insA (tgR (R.take (i + 1))) := by
                have e1 : R.take (i + 1) = R.take i ++ [⟨(t : Int), ⟨xh, xs⟩, .slice xp k xc⟩] := by rw [List.take_add_one, HX.out]; rfl
                rw [e1]
                unfold tgR
                rw [List.map_append, List.map_cons, List.map_nil, insA_snoc]
                rfl
              rw [htk] at hsteps
              have HST := Lib.hid hsteps
              have HXV := Lib.hid (show (if i + 1 = 0 then none else (R[i + 1 - 1]?).map (·.tag)) = some (t : Int) by rw [if_neg (by omega), Nat.add_sub_cancel, HX.out]; rfl)
              clear hsteps htk hnw hrow ho h14 a5
              go_wp2_with fail
              go_roundg (GO - 1)
              case measure => have := HI.out; have := HGO.out; omega
              case rel => exact ⟨i + 1, cnt3, _, _, mk3, by have := HI.out; have := HGO.out; omega, by go_num, by omega, by rw [HXV.out]; exact HOKN.out, HST.out⟩
        · have HE := Lib.hid (hct rfl)
          clear hcf hct
          have HBF : Hid (B = false) := by
            unfold Hid
            rw [← HOK2, HE.out]
            rfl
          go_wp2_with fail
          go_ret2
          exact .inl ⟨HBF.out, rfl, rs2.bel⟩
    · obtain rfl : i = n5 := by omega
      go_wp2_with fail
      go_ret2
      have hok := HOK.out
      rw [List.drop_of_length_le (by rw [← HN5.out]; exact Nat.le_refl _)] at hok
      have hBt : B = true := by rw [← hok]; rfl
      have hfull := HB.out
      rw [hBt] at hfull
      obtain ⟨m', hm'⟩ := Option.isSome_iff_exists.1 hfull
      obtain ⟨k1, k2⟩ := okL_ok hm'
      have hup : TUp (tgR R) := by
        unfold TUp tgR
        rw [List.pairwise_map]
        have hz : ∀ x ∈ R, 0 ≤ x.tag := fun x hx => by obtain ⟨k, hk, _⟩ := tagB_nat (k1 x hx).1.tag; omega
        exact List.Pairwise.imp_of_mem (fun {a b} ha hb hab => by have := hz a ha; have := hz b hb; show a.tag.toNat < b.tag.toNat; omega) k2
      have hsy := RS.out.sy
      rw [List.take_of_length_le (by rw [← HN5.out]; exact Nat.le_refl _), insA_self hup] at hsy
      have hst : tgR R = advD gr now (tgR R) := by
        unfold advD
        conv => lhs; rw [← List.map_id (tgR R)]
        refine List.map_congr_left (fun x hx => ?_)
        obtain ⟨r, hr, rfl⟩ := List.mem_map.1 hx
        show (⟨r.tag.toNat, r.p⟩ : Tg) = ⟨r.tag.toNat, normP gr now r.p⟩
        rw [normP_stay (k1 r hr).1.stay]
      have hne : LNe (tgR R) := fun x hx => by
        obtain ⟨r, hr, rfl⟩ := List.mem_map.1 hx
        exact (k1 r hr).1.ne
      obtain ⟨q1, q2, q3, q4, q5, q6⟩ := RS.out.lo
      exact .inr ⟨hBt, g, fun x => x = g ∨ x = b ∨ own x ≠ none, rfl, ⟨b, own, ms, tgR R, hsy, hne, hst, fun x => Iff.rfl⟩, fun x hx => by
        rcases hx with hx | hx | hx
        · omega
        · omega
        · cases ho : own x with
          | none => exact absurd ho hx
          | some t => have := (RS.out.new x t ho).1; omega, RS.out.bel⟩
end Go.Proofs.Ytckdfnlleaifcaa
