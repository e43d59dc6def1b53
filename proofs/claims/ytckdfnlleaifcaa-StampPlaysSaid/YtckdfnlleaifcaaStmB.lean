/- The next stamp; what is known of a tag, brought up to date. -/
import Derived.Test.YtckdfnlleaifcaaStmA
import Derived.Deep.DeepCutAuto
namespace Go.Proofs.Ytckdfnlleaifcaa
set_option linter.unusedVariables false
open Go.RowKit Go.Maps

section
variable {w w' : World} {own : Nat → Option Nat} {t k : Nat} {p : Pg} {v : Value} {g gr now last b n : Nat} {m : List (Nat × Option Nat)} {l : List Tg}
/-- Only the head turns. -/
theorem Sy.head (h : Sy w g gr now last b n own m l) (ho : Only (fun x => x = g) w w') {now' last' : Nat} (hb : Blk w' g 60 #[.int .u64 (gr : Int), .int .u64 (now' : Int), .int .u64 (last' : Int), .map (some b)])
    (hn : now ≤ now') (hl : last ≤ last') (h1 : now' ≤ 18446744073709551615) (h2 : last' ≤ 18446744073709551615) : Sy w' g gr now' last' b n own m l := by
  have hne := h.ne
  have hog := h.og
  refine ⟨hb, h.mp.kept (row := some g) ⟨ho.os, ho.tape, ho.output, ho.size, fun i hi hn => ho.block i hi (fun e => hn (by rw [e]))⟩ (fun e => hne (Option.some.inj e).symm), h.og, h.ob, fun x t hx => Nat.lt_of_lt_of_le (h.ol x t hx) ho.size, h.keys, fun x hx => ?_, h.lok.later hn hl, h.ln, h.gb, h1, h2⟩
  obtain ⟨k, v, h3, h4⟩ := h.at_ x hx
  exact ⟨k, v, h3, h4.only ho (fun z hz e => by rw [e, hog] at hz; cases hz)⟩
/-- Another object turns. -/
theorem Sy.other {S : Nat → Prop} (h : Sy w g gr now last b n own m l) (ho : Only S w w') (h1 : ¬ S g) (h2 : ¬ S b) (h3 : ∀ x t, own x = some t → ¬ S x) : Sy w' g gr now last b n own m l := by
  refine ⟨h.bk.only ho h1, ?_, h.og, h.ob, fun x t hx => Nat.lt_of_lt_of_le (h.ol x t hx) ho.size, h.keys, fun x hx => ?_, h.lok, h.ln, h.gb, h.nb, h.lb⟩
  · exact h.mp.turn (ho.block b h.mp.lt h2)
  · obtain ⟨k, v, h4, h5⟩ := h.at_ x hx
    exact ⟨k, v, h4, h5.only ho (fun z hz => h3 z _ hz)⟩
end
set_option maxHeartbeats 1000000 in
set_option maxRecDepth 100000 in
theorem next_full {w : World} {g gr now b n : Nat} {own : Nat → Option Nat} {m : List (Nat × Option Nat)} {l : List Tg} (h : Sy w g gr now 18446744073709551615 b n own m l) (a : Nat) :
    Calls Try.prog 37 #[.pointer (some ⟨g, 0, none⟩), .int .u64 (a : Int)] w fun e w' => e = .returned (.tuple #[.int .u64 0, .int .i64 7]) ∧ w = w' := by
  obtain ⟨c0, c1, c2, c3⟩ := h.cells
  clear h
  go_enter Try.func37, Try.ntmps37
  go_wp2
  go_ret2
  exact ⟨rfl, rfl⟩
set_option maxHeartbeats 1000000 in
set_option maxRecDepth 100000 in
theorem next_ok {w : World} {g gr now last b n : Nat} {own : Nat → Option Nat} {m : List (Nat × Option Nat)} {l : List Tg} (h : Sy w g gr now last b n own m l) (hl : last < 18446744073709551615) (a : Nat) (ha : a ≤ 18446744073709551615) :
    Calls Try.prog 37 #[.pointer (some ⟨g, 0, none⟩), .int .u64 (a : Int)] w fun e w' => e = .returned (.tuple #[.int .u64 ((last + 1 : Nat) : Int), .int .i64 0]) ∧ Sy w' g gr (max now a) (last + 1) b n own m l ∧ Only (fun x => x = g) w w' := by
  obtain ⟨c0, c1, c2, c3⟩ := h.cells
  have hb := h.bk.lt
  have hf := h.bk.frozen
  have hne : ((last : Int) == 18446744073709551615) = false := by rw [beq_eq_false_iff_ne]; omega
  have hl1 : (last : Int) + 1 ≤ 18446744073709551615 := by omega
  have HE := Lib.hid (fun W => effective_any now a W)
  have HS := Lib.hid h
  have hnn : max now a ≤ 18446744073709551615 := by have := h.nb; omega
  have HN := Lib.hid hnn
  have hn2 : now ≤ max now a := by omega
  generalize max now a = A at *
  clear h hnn
  have hk := HS.out.bk
  have HK : Hid (Blk ((w.setCell ⟨g, 1, none⟩ (.int .u64 (A : Int))).setCell ⟨g, 2, none⟩ (.int .u64 ((last : Int) + 1))) g 60 #[.int .u64 (gr : Int), .int .u64 (A : Int), .int .u64 ((last + 1 : Nat) : Int), .map (some b)]) := by
    have := (hk.set_ 1 (.int .u64 (A : Int))).set_ 2 (.int .u64 ((last : Int) + 1))
    simpa [Hid] using this
  have HO := Lib.hid (((Only.refl (fun x => x = g) w).setCell1 (g := g) (.inl rfl) 1 (.int .u64 (A : Int))).setCell1 (g := g) (.inl rfl) 2 (.int .u64 ((last : Int) + 1)))
  clear hk
  go_enter Try.func37, Try.ntmps37
  go_wp2_with (go_at_call 38; refine (HE.out _).mono ?_; rintro e w1 ⟨rfl, rfl⟩)
  go_ret2
  exact ⟨by simp, HS.out.head HO.out HK.out hn2 (by omega) HN.out (by omega), HO.out⟩
set_option maxHeartbeats 1000000 in
set_option maxRecDepth 100000 in
theorem fresh_none {w : World} {g gr now last b n : Nat} {own : Nat → Option Nat} {m : List (Nat × Option Nat)} {l : List Tg} (h : Sy w g gr now last b n own m l) (t : Nat) (ht : t < 65536) (hx : getT t l = none) :
    Calls Try.prog 40 #[.pointer (some ⟨g, 0, none⟩), .int .i64 (t : Int)] w fun e w' => e = .returned (.pointer none) ∧ w = w' := by
  have hk := look_any h.mp ht
  rw [h.none__ hx] at hk
  change _ = Result.ok (Value.pointer none) _ at hk
  obtain ⟨c0, c1, c2, c3⟩ := h.cells
  clear h hx
  go_enter Try.func40, Try.ntmps40
  go_wp2
  go_ret
  exact ⟨rfl, rfl⟩
/-- One tag is up to date. -/
def nrm (gr now t : Nat) (l : List Tg) : List Tg := l.map fun x => if x.tag = t then normT gr now x else x
theorem nrm_tag (gr now t : Nat) (x : Tg) : (if x.tag = t then normT gr now x else x).tag = x.tag := by split <;> rfl
theorem nrm_adv (gr now t : Nat) (l : List Tg) : advD gr now (nrm gr now t l) = advD gr now l := by
  unfold advD nrm
  rw [List.map_map]
  refine List.map_congr_left (fun x _ => ?_)
  show normT gr now (if x.tag = t then normT gr now x else x) = _
  split
  · exact normT_twice (Nat.le_refl _) x
  · rfl
theorem nrm_get {gr now t : Nat} {l : List Tg} {x : Tg} (h : getT t l = some x) : getT t (nrm gr now t l) = some (normT gr now x) := by
  unfold nrm
  rw [getT_map _ (nrm_tag gr now t), h]
  show some (if x.tag = t then _ else _) = _
  rw [if_pos (getT_mem h).2]
section
variable {w w' : World} {own : Nat → Option Nat} {t k : Nat} {p : Pg} {v : Value} {g gr now last b n : Nat} {m : List (Nat × Option Nat)} {l : List Tg}
theorem Sy.nrm (h : Sy w g gr now last b n own m l) (ho : Only (fun x => own x = some t) w w') {x : Tg} (hx : getT t l = some x) {k : Nat} {v : Value} (hk : mget none m t = some k) (hp : PgAt w' own t k (normP gr now x.p) v) : Sy w' g gr now last b n own m (nrm gr now t l) := by
  have e : ∀ z : Tg, (if z.tag = t then normT gr now z else z).tag = z.tag := nrm_tag gr now t
  obtain ⟨hx1, hx2⟩ := getT_mem hx
  refine ⟨h.bk.only ho (by rw [h.og]; simp), ?_, h.og, h.ob, fun x t hx => Nat.lt_of_lt_of_le (h.ol x t hx) ho.size, ?_, fun y hy => ?_, ⟨map_up h.lok.up _ e, fun y hy => ?_, fun y hy => ?_⟩, ⟨?_, fun y hy => ?_⟩, h.gb, h.nb, h.lb⟩
  · exact h.mp.turn (ho.block b h.mp.lt (by rw [h.ob]; simp))
  · rw [h.keys]
    unfold Proofs.Ytckdfnlleaifcaa.nrm
    rw [List.map_map]
    exact List.map_congr_left (fun z _ => (e z).symm)
  · obtain ⟨z, hz, rfl⟩ := List.mem_map.1 hy
    by_cases hzt : z.tag = t
    · have hzx : z = x := by
        have := getT_of h.lok.up hz
        rw [hzt, hx] at this
        exact (Option.some.inj this).symm
      subst hzx
      rw [if_pos hzt]
      exact ⟨k, v, by show mget none m z.tag = _; rw [hzt]; exact hk, by show PgAt w' own z.tag k _ v; rw [hzt]; exact hp⟩
    · rw [if_neg hzt]
      obtain ⟨k', v', h3, h4⟩ := h.at_ z hz
      exact ⟨k', v', h3, h4.only ho (fun q hq e => by rw [hq] at e; exact hzt (Option.some.inj e))⟩
  · obtain ⟨z, hz, rfl⟩ := List.mem_map.1 hy
    rw [e]
    exact h.lok.tag z hz
  · obtain ⟨z, hz, rfl⟩ := List.mem_map.1 hy
    split
    · exact (h.lok.p z hz).norm gr (Nat.le_refl _)
    · exact h.lok.p z hz
  · unfold Proofs.Ytckdfnlleaifcaa.nrm
    rw [List.length_map]
    exact h.ln.1
  · obtain ⟨z, hz, rfl⟩ := List.mem_map.1 hy
    split
    · exact Nat.le_trans (List.length_filter_le _ _) (h.ln.2 z hz)
    · exact h.ln.2 z hz
end
/-- What the loop of fresh keeps. -/
structure Frs (w0 wr : World) (g gr now k : Nat) (own : Nat → Option Nat) (t : Nat) (p : Pg) (h : Nat) (s : List Sft) (v : Value) : Prop where
  at_ : PgAt wr own t k ⟨h, s⟩ v
  hard : hardK gr now h s = hardK gr now p.hard p.soft
  soft : softK gr now s = softK gr now p.soft
  up : SUp s
  sm : ∀ x ∈ s, x.tm ≤ 18446744073709551615
  only : Only (fun x => own x = some t) w0 wr
def FreshP (w : World) (gr now : Nat) (own : Nat → Option Nat) (m : List (Nat × Option Nat)) (t : Nat) (p : Pg) (e : Ending) (w' : World) : Prop :=
  ∃ k v, e = .returned (.pointer (some ⟨k, 0, none⟩)) ∧ mget none m t = some k ∧ PgAt w' own t k (normP gr now p) v ∧ Only (fun z => own z = some t) w w'
theorem Frs.done {w0 wr : World} {g gr now k : Nat} {own : Nat → Option Nat} {t : Nat} {p : Pg} {hd : Nat} {s : List Sft} {v : Value} (h : Frs w0 wr g gr now k own t p hd s v) (hs : ∀ y ∈ s, overB gr now y.tm = false) : PgAt wr own t k (normP gr now p) v := by
  have e : normP gr now p = ⟨hd, s⟩ := by
    unfold normP
    rw [← h.hard, ← h.soft, hardK_none _ hs, softK_none hs]
  rw [e]
  exact h.at_
theorem Frs.below {w0 wr w1 : World} {g gr now k : Nat} {own : Nat → Option Nat} {t : Nat} {p : Pg} {hd : Nat} {s : List Sft} {v : Value} (h : Frs w0 wr g gr now k own t p hd s v) (hb : Below wr.heap.size wr w1) : Frs w0 w1 g gr now k own t p hd s v :=
  ⟨h.at_.below hb, h.hard, h.soft, h.up, h.sm, h.only.trans (Only.of_below hb (fun _ => False)) (fun _ h => h.elim)⟩
theorem Frs.step {w0 wr : World} {g gr now k : Nat} {own : Nat → Option Nat} {t : Nat} {p : Pg} {hd : Nat} {y : Sft} {s : List Sft} {v : Value} (h : Frs w0 wr g gr now k own t p hd (y :: s) v) (ho : overB gr now y.tm = true) {v1 : Value} (hv : v1.ownBlock = v.ownBlock) (hr : Mid wr 2 v1 s.length (softCells s)) :
    Frs w0 ((wr.setCell ⟨k, 0, none⟩ (.int .u64 ((max hd y.st : Nat) : Int))).setCell ⟨k, 1, none⟩ v1) g gr now k own t p (max hd y.st) s v1 := by
  have hb := (h.at_.blk.set_ 0 (.int .u64 ((max hd y.st : Nat) : Int))).set_ 1 v1
  have hO : Only (fun x => x = k) wr ((wr.setCell ⟨k, 0, none⟩ (.int .u64 ((max hd y.st : Nat) : Int))).setCell ⟨k, 1, none⟩ v1) := ((Only.refl (fun x => x = k) wr).setCell1 (g := k) (.inl rfl) 0 _).setCell1 (g := k) (.inl rfl) 1 _
  refine ⟨⟨by simpa using hb, hr.only hO (fun z hz => (h.at_.ownv z (hv ▸ hz)).2), h.at_.ownk, fun z hz => h.at_.ownv z (hv ▸ hz)⟩, ?_, ?_, (List.pairwise_cons.1 h.up).2, fun x hx => h.sm x (List.mem_cons_of_mem _ hx), h.only.trans hO (fun z hz => .inl (by rw [hz]; exact h.at_.ownk))⟩
  · rw [← h.hard, hardK_cons (h := hd), if_pos ho]
  · rw [← h.soft, softK_cons_over ho]
set_option maxHeartbeats 4000000 in
set_option maxRecDepth 100000 in
theorem fresh_some {w : World} {g gr now last b n : Nat} {own : Nat → Option Nat} {m : List (Nat × Option Nat)} {l : List Tg} (h : Sy w g gr now last b n own m l) (t : Nat) (ht : t < 65536) {x : Tg} (hx : getT t l = some x) (hn : n ≤ 100000) :
    Calls Try.prog 40 #[.pointer (some ⟨g, 0, none⟩), .int .i64 (t : Int)] w (FreshP w gr now own m t x.p) := by
  have hk := look_any h.mp ht
  obtain ⟨k, v, hk1, hk2⟩ := h.some_ hx
  rw [hk1] at hk
  change _ = Result.ok (Value.pointer (some ⟨k, 0, none⟩)) _ at hk
  have hxl := getT_mem hx
  have hpx := h.lok.p x hxl.1
  have hln := h.ln.2 x hxl.1
  have HK1 := Lib.hid hk1
  obtain ⟨c0, c1, c2, c3⟩ := h.cells
  have F0 : Hid (Frs w w g gr now k own t x.p x.p.hard x.p.soft v) := ⟨hk2, rfl, rfl, hpx.up, fun y hy => Nat.le_trans (hpx.tm y hy) h.nb, Only.refl _ _⟩
  have HS := Lib.hid h
  clear h hx hk1 hk2 hxl hpx
  go_enter Try.func40, Try.ntmps40
  go_wp2_with fail
  clear hk c0 c1 c2 c3
  go_loopg [] x.p.soft.length (fun q wr => ∃ h s v, q = s.length ∧ s.length ≤ n ∧ Frs w wr g gr now k own t x.p h s v)
  case atStart => exact ⟨_, _, _, rfl, hln, F0.out⟩
  case round =>
    clear F0 hln
    obtain ⟨hd, s, v1, hq, hsn, hF⟩ := hrel
    have HQ := Lib.hid hq
    obtain ⟨pp, cap, hv1, hcl, hcm⟩ := hF.at_.row.form
    subst hv1
    have k0 := hF.at_.blk.cell 0
    have k1 := hF.at_.blk.cell 1
    have hbw : Blk wr g 60 #[.int .u64 (gr : Int), .int .u64 (now : Int), .int .u64 (last : Int), .map (some b)] := HS.out.bk.only hF.only (by rw [HS.out.og]; simp)
    have HBW := Lib.hid hbw
    have HF := Lib.hid hF
    clear hq hF hbw
    rcases s with _ | ⟨y, s⟩
    · simp only [List.length_nil] at hcl hsn k1
      go_wp2_with fail
      go_ret
      exact ⟨k, _, rfl, HK1.out, HF.out.done (by simp), HF.out.only⟩
    · obtain ⟨gs, o, cap', he, _, hgl, hcell, hfz⟩ := HF.out.at_.row.at (by simp)
      injection he with he1 he2 he3
      subst he1 he3
      obtain ⟨d0, d1⟩ := softCells_get (l := y :: s) (i := 0) (x := y) rfl
      have e0 := hcell _ _ d0
      have e1 := hcell _ _ d1
      simp only [Nat.zero_mul, Nat.zero_add, Nat.add_zero] at e0 e1
      have hy := HF.out.sm y List.mem_cons_self
      have HO := Lib.hid (over_any HBW.out y.st y.tm hy)
      simp only [List.length_cons] at hcl hsn k1
      have hpos : (0 : Int) < ((s.length + 1 : Nat) : Int) := by omega
      clear he2 d0 d1 hcell hfz
      have HF2 := Lib.hid (fun (w1 : World) (hb : Below wr.heap.size wr w1) => HF.out.below hb)
      cases ho : overB gr now y.tm
      · rw [ho] at HO
        have hst := softK_stays HF.out.up ho
        go_wp2_with (go_at_call 53; refine HO.out.mono ?_; rintro e w1 ⟨rfl, b1⟩)
        go_ret
        exact ⟨k, _, rfl, HK1.out, (HF2.out _ b1).done hst, (HF2.out _ b1).only⟩
      · rw [ho] at HO
        have HOV := Lib.hid ho
        clear ho
        have hmax : (if hd < y.st then (y.st : Int) else (hd : Int)) = ((max hd y.st : Nat) : Int) := by split <;> omega
        have HM := Lib.hid hmax
        clear hmax
        go_wp2_with (go_at_call 53; refine HO.out.mono ?_; rintro e w1 ⟨rfl, b1⟩)
        have hF := HF2.out _ b1
        have f0 := hF.at_.blk.cell 0
        have f1 := hF.at_.blk.cell 1
        have q0 := (b1.cell (p := ⟨gs, o, none⟩) hgl).trans e0
        have hfz := hF.at_.blk.frozen
        simp only [List.length_cons] at f1
        clear HF2 HO HBW HF k0 k1 e0 e1 b1
        have HFF := Lib.hid hF
        have hr := Lib.hid hF.at_.row
        clear hF
        go_wp2_with fail
        go_still_tail 15, (by kernel_rfl)
        change wpList _ _ _ _ _ w1.drew
        rw [HM.out]
        have e1 := (HFF.out.at_.blk.set_ 0 (.int .u64 ((max hd y.st : Nat) : Int))).cell 1
        have e1' : (w1.drew.setCell ⟨k, 0, none⟩ (.int .u64 ((max hd y.st : Nat) : Int))).cell? ⟨k, 1, none⟩ = some (.slice (some ⟨gs, o, none⟩) (s.length + 1) cap) := by
          have := ((HFF.out.at_.blk.drewN 1).set_ 0 (.int .u64 ((max hd y.st : Nat) : Int))).cell 1
          exact this.trans (by simp)
        have hz : (w1.drew.setCell ⟨k, 0, none⟩ (.int .u64 ((max hd y.st : Nat) : Int))).frozen? ⟨k, 1, none⟩ = false := by
          simp [hfz]
        have hd1 : Hid (Frs w w1.drew g gr now k own t x.p hd (y :: s) (.slice (some ⟨gs, o, none⟩) (y :: s).length cap)) := HFF.out.below (Below.refl _ _).drew
        clear e1
        have hq : gk = s.length + 1 := HQ.out
        have HQ2 := Lib.hid hq
        clear hq HQ
        by_cases hcap : cap = 1
        · subst hcap
          have hs0 : s = [] := List.eq_nil_of_length_eq_zero (by omega)
          subst hs0
          go_wp2_with fail
          go_roundg (gk - 1)
          case measure => have := HQ2.out; omega
          case rel =>
            refine ⟨max hd y.st, [], .slice (some ⟨gs, o, none⟩) 0 0, by have := HQ2.out; simp at this ⊢; omega, by simp, ?_⟩
            exact hd1.out.step HOV.out rfl (Mid.none_ hd1.out.at_.row)
        · have hcap' : (cap = 1) = False := by simp [hcap]
          go_wp2_with fail
          go_roundg (gk - 1)
          case measure => have := HQ2.out; omega
          case rel =>
            refine ⟨max hd y.st, s, .slice (some ⟨gs, o + 2, none⟩) s.length (cap - 1), by have := HQ2.out; omega, by omega, ?_⟩
            obtain ⟨c2, rfl⟩ : ∃ c2, cap = c2 + 1 := ⟨cap - 1, by omega⟩
            exact hd1.out.step HOV.out rfl (Mid.tail hd1.out.at_.row)
end Go.Proofs.Ytckdfnlleaifcaa
