/- Soft, Of, First. -/
import Derived.Test.YtckdfnlleaifcaaStmC
import Derived.Test.YtckdfnlleaifcaaRow
import Derived.WalkSpells
import Derived.Deep.DeepCutAuto
import Derived.Deep.RegionHeld3
import Derived.BigRegion
namespace Go.Proofs.Ytckdfnlleaifcaa
set_option linter.unusedVariables false
open Go.RowKit Go.Maps

/-- Stamps in which tag t is known and up to date. -/
structure Sq (w : World) (g gr now last b n : Nat) (own : Nat → Option Nat) (m : List (Nat × Option Nat)) (l : List Tg) (t k : Nat) (p : Pg) (v : Value) : Prop where
  sy : Sy w g gr now last b n own m l
  get : getT t l = some ⟨t, p⟩
  mg : mget none m t = some k
  pg : PgAt w own t k p v
section
variable {w w' : World} {own : Nat → Option Nat} {t k : Nat} {p p2 : Pg} {v v2 : Value} {g gr now last b n n' : Nat} {m : List (Nat × Option Nat)} {l d : List Tg} {O : Nat → Prop}
theorem Sq.below (h : Sq w g gr now last b n own m l t k p v) (hb : Below w.heap.size w w') : Sq w' g gr now last b n own m l t k p v := ⟨h.sy.below hb, h.get, h.mg, h.pg.below hb⟩
/-- What is known of t turns, in its blocks and in new ones. -/
theorem Sq.turn (h : Sq w g gr now last b n own m l t k p v) (ho : Only (fun x => own x = some t) w w') (hp : PgAt w' (ownN w w' t own) t k p2 v2) (hpk : POk now last p2) (hn : n ≤ n') (hl2 : p2.soft.length ≤ n') : Sy w' g gr now last b n' (ownN w w' t own) m (insT ⟨t, p2⟩ l) := by
  have hup := h.sy.lok.up
  obtain ⟨hx1, hx2⟩ := getT_mem h.get
  have hmem : t ∈ l.map (·.tag) := List.mem_map.2 ⟨_, hx1, rfl⟩
  have hpw : (l.map (·.tag)).Pairwise (· < ·) := by rw [List.pairwise_map]; exact hup
  have hkeys : m.map (·.1) = insK t (m.map (·.1)) := by rw [h.sy.keys, insK_there hpw hmem]
  have hlen : (insT ⟨t, p2⟩ l).length ≤ n' := by
    have e : ((insT ⟨t, p2⟩ l).map (·.tag)).length = (l.map (·.tag)).length := by rw [insT_keys, insK_there hpw hmem]
    rw [List.length_map, List.length_map] at e
    rw [e]
    exact Nat.le_trans h.sy.ln.1 hn
  exact h.sy.put (ho.more (fun z hz => .inl (.inr hz))) ((h.sy.mp.turn (ho.block b h.sy.mp.lt (by rw [h.sy.ob]; simp))).mono hn) (fun _ _ => rfl) h.mg hkeys hp hpk (h.sy.lok.tag _ hx1) hn hlen hl2
end
theorem known_get {gr now t : Nat} {l : List Tg} : knownP t (advD gr now l) = match getT t l with | some x => normP gr now x.p | none => ⟨0, []⟩ := by
  unfold knownP advD
  rw [getT_map (normT gr now) (fun _ => rfl)]
  cases getT t l <;> rfl
/-! ### Of -/
def stV (t h : Nat) (v : Value) : Value := .agg #[.int .i64 (t : Int), .int .u64 (h : Int), v]
/-- The result of Of: what is known, on its own. -/
def OfP (w : World) (O : Nat → Prop) (g gr now last n t : Nat) (p : Pg) (d : List Tg) (e : Ending) (w' : World) : Prop :=
  ∃ v B, e = .returned (.tuple #[stV t p.hard v, .int .i64 0]) ∧ w'.ownsRow B 52 2 v p.soft.length (softCells p.soft) ∧ w.heap.size ≤ B ∧ St w' g gr now last n d O ∧ Only O w w'
theorem Mid.lies {w : World} {size : Nat} {v : Value} {n : Nat} {xs : List Value} (h : Mid w size v n xs) : Lies w size v n xs := by
  obtain ⟨h0, _, ⟨rfl, rfl⟩ | ⟨g, o, cap, rfl, h1, h2, h3, h4, h5⟩⟩ := h
  · exact ⟨none, 0, rfl, h0, .inl rfl⟩
  · refine ⟨_, cap, rfl, h0, .inr ⟨_, rfl, fun j u hj => ?_⟩⟩
    rw [addr_add]
    exact h4 j u hj
theorem RowAt.lies {w : World} {size : Nat} {v : Value} {n : Nat} {xs : List Value} (h : RowAt w size v n xs) : Lies w size v n xs := by
  obtain ⟨p, c, rfl, h1, h2, h3⟩ := h
  refine ⟨p, c, rfl, h1, ?_⟩
  rcases h3 with h3 | ⟨blk, off, rfl, h4, h5⟩
  · exact .inl h3
  · refine .inr ⟨_, rfl, fun j u hj => ?_⟩
    rw [addr_add]
    exact h5 j u hj
theorem own_form {w : World} {B : Nat} {e : TypeId} {k : Nat} {v : Value} {n : Nat} {xs : List Value} (h : w.ownsRow B e k v n xs) : ∃ p cap, v = .slice p n cap := by
  rcases h.2 with ⟨rfl, rfl⟩ | ⟨g, cap, cur, rfl, _⟩
  · exact ⟨none, 0, rfl⟩
  · exact ⟨_, cap, rfl⟩
theorem sfInfo : (Try.prog.info? 52).map (fun i => (i.zero, i.size, i.bytes)) = some (some (.agg #[.int .u64 0, .int .u64 0]), 2, 16) := by kernel_rfl
/-- A row of soft purges of one's own. -/
def CloP (w : World) (s : List Sft) (e : Ending) (w' : World) : Prop := ∃ v', e = .returned v' ∧ w'.ownsRow w.heap.size 52 2 v' s.length (softCells s) ∧ Below w.heap.size w w'
set_option maxHeartbeats 2000000 in
set_option maxRecDepth 100000 in
/-- slices.Clone of soft purges. -/
theorem clone_any {w : World} {v : Value} {s : List Sft} (h : RowAt w 2 v s.length (softCells s)) (hl : s.length ≤ 1000000) :
    Calls Try.prog 41 #[v] w (CloP w s) := by
  have hrow := h
  obtain ⟨p, cap, rfl, h1, _, h2⟩ := h
  rcases p with _ | ad
  · have hs : s = [] := by
      rcases h2 with h2 | ⟨_, _, h2, _⟩
      · exact List.eq_nil_of_length_eq_zero h2
      · cases h2
    subst hs
    have q22 : ∀ W : World, (binOp .eql 41 (.slice none 0 cap) (.slice none 0 0)).run Try.prog W = .ok (.bool true) W := fun W => Lib.run_eql_slice_nil W _ _ _ _ _ _ _ Try.underlying41
    simp only [List.length_nil]
    go_enter Try.func41, Try.ntmps41
    go_wp2_with fail
    go_ret
    exact ⟨_, rfl, ⟨rfl, .inl ⟨rfl, rfl⟩⟩, Below.refl _ _⟩
  · obtain ⟨i0, hi, hp0⟩ := Option.map_eq_some_iff.1 sfInfo
    have hz0 : i0.zero = some (.agg #[.int .u64 0, .int .u64 0]) := congrArg (·.1) hp0
    have hz1 : i0.size = 2 := congrArg (·.2.1) hp0
    have hz2 : i0.bytes = 16 := congrArg (·.2.2) hp0
    clear hp0
    have q22 : ∀ W : World, (binOp .eql 41 (.slice (some ad) s.length cap) (.slice none 0 0)).run Try.prog W = .ok (.bool false) W := fun W => Lib.run_eql_slice_nil W _ _ _ _ _ _ _ Try.underlying41
    have HL := Lib.hid (hrow.below (w' := w.alloc (.cells #[] 52)) ((Below.refl w.heap.size w).alloc (Nat.le_refl _) _)).lies
    clear hrow
    clear h1 h2
    go_enter Try.func41, Try.ntmps41
    go_wp2_with (at_builtin; refine wpList_append_lying _ rfl _ _ 41 rfl w.heap.size 52 i0 (.agg #[.int .u64 0, .int .u64 0]) 2 16 Try.underlying41 hi hz0 hz1 hz2 rfl (by decide) _ 0 [] rfl (World.ownsRow_made w #[] 0 (Nat.le_refl _) (Nat.zero_le _) (by simp)) _ s.length (softCells s) rfl HL.out (softCells_one s) (by unfold maxLen; omega) (by omega) (by simp) ?_; intro v1 w1 hown1 hg1 hat1)
    have H1 := Lib.hid hown1
    have G1 := Lib.hid hg1
    clear hown1 hg1 hat1
    go_wp2_with fail
    go_ret
    exact ⟨_, rfl, by simpa using H1.out, ((Below.refl _ w).alloc (Nat.le_refl _) _).grown G1.out (by simp) (by intro k hk; cases hk; exact Nat.le_refl _)⟩
set_option maxHeartbeats 2000000 in
set_option maxRecDepth 100000 in
theorem of_bad {w : World} {g gr now last n : Nat} {d : List Tg} {O : Nat → Prop} (h : St w g gr now last n d O) (t : Int) (ht : tagB t = false) :
    Calls Try.prog 18 #[.pointer (some ⟨g, 0, none⟩), .int .i64 t] w fun e w' => e = .returned (.tuple #[.agg #[.int .i64 0, .int .u64 0, .slice none 0 0], .int .i64 2]) ∧ Below w.heap.size w w' := by
  obtain ⟨b, own, m, l, h1, h2, rfl, h4⟩ := h
  have HC := Lib.hid (check_any (h1.bk.alloc (.cells #[.int .i64 0, .int .u64 0, .slice none 0 0] 43)) t)
  rw [ht] at HC
  clear h1 h2 h4 ht
  go_enter Try.func18, Try.ntmps18
  go_wp2_with (go_at_call 39; refine HC.out.mono ?_; rintro e w1 ⟨rfl, rfl⟩)
  refine bodyPost_ret (v := .tuple #[.agg #[.int .i64 0, .int .u64 0, .slice none 0 0], .int .i64 2]) (by simp [results, Try.results18, go_sem]) rfl ⟨rfl, ?_⟩
  repeat (first | exact Below.refl _ _ | refine Below.setCell ?_ (by simp <;> omega) _ | refine Below.alloc ?_ (by simp <;> omega) _)
set_option maxHeartbeats 2000000 in
set_option maxRecDepth 100000 in
theorem of_ok {w : World} {g gr now last n : Nat} {d : List Tg} {O : Nat → Prop} (h : St w g gr now last n d O) (t : Nat) (ht : t < 65536) (hn : n ≤ 100000) :
    Calls Try.prog 18 #[.pointer (some ⟨g, 0, none⟩), .int .i64 (t : Int)] w (OfP w O g gr now last n t (knownP t d) d) := by
  obtain ⟨b, own, m, l, h1, h2, rfl, h4⟩ := h
  have hT : tagB (t : Int) = true := by unfold tagB; simp; omega
  have hb1 : Below w.heap.size w (w.alloc (.cells #[.int .i64 0, .int .u64 0, .slice none 0 0] 43)) := (Below.refl _ _).alloc (Nat.le_refl _) _
  have hz := Blk.new w 43 #[.int .i64 0, .int .u64 0, .slice none 0 0]
  have q1 := h1.below hb1
  have HC := Lib.hid (check_any q1.bk (t : Int))
  rw [hT, if_pos rfl] at HC
  have HB1 := Lib.hid hb1
  have HZ := Lib.hid hz
  have HZL := Lib.hid hz.lt
  have HOL := Lib.hid (fun (x : Nat) (hx : O x) => St.lt (w := w) (g := g) (gr := gr) (now := now) (last := last) (n := n) (d := advD gr now l) ⟨b, own, m, l, h1, h2, rfl, h4⟩ hx)
  have HOW := Lib.hid (fun (x t' : Nat) (hx : own x = some t') => h1.ol x t' hx)
  have hkn := known_get (gr := gr) (now := now) (t := t) (l := l)
  generalize hW : w.alloc (.cells #[.int .i64 0, .int .u64 0, .slice none 0 0] 43) = W at *
  cases hx : getT t l with
  | none =>
    rw [hx] at hkn
    rw [hkn]
    dsimp only
    have HF := Lib.hid (fresh_none q1 t ht hx)
    have HS := Lib.hid (⟨b, own, m, l, q1, h2, rfl, h4⟩ : St W g gr now last n (advD gr now l) O)
    have HW := Lib.hid hW
    clear h1 h2 h4 hT q1 hx hb1 hz hkn hW
    go_enter Try.func18, Try.ntmps18
    go_wp2_with fail
    rw [HW.out]
    have z0 := HZ.out.cell 0
    have z1 := HZ.out.cell 1
    have z2 := HZ.out.cell 2
    have hf := HZ.out.frozen
    go_wp2_with (first
      | (go_at_call 39; refine HC.out.mono ?_; rintro e w1 ⟨rfl, rfl⟩)
      | (go_at_call 40; refine HF.out.mono ?_; rintro e w1 ⟨rfl, rfl⟩))
    have hres : Blk (((W.setCell ⟨w.heap.size, 0, none⟩ (.int .i64 (t : Int))).setCell ⟨w.heap.size, 1, none⟩ (.int .u64 0)).setCell ⟨w.heap.size, 2, none⟩ (.slice none 0 0)) w.heap.size 43 #[.int .i64 (t : Int), .int .u64 0, .slice none 0 0] := by
      simpa using ((HZ.out.set_ 0 (.int .i64 (t : Int))).set_ 1 (.int .u64 0)).set_ 2 (.slice none 0 0)
    have r0 := hres.cell 0
    have r1 := hres.cell 1
    have r2 := hres.cell 2
    have hbb : Below W.heap.size W W := Below.refl _ _
    refine bodyPost_ret (v := .tuple #[.agg #[.int .i64 (t : Int), .int .u64 0, .slice none 0 0], .int .i64 0]) (by simp [results, Try.results18, go_sem, r0, r1, r2]) rfl ?_
    have hO : Only (fun x => x = w.heap.size) W (((W.setCell ⟨w.heap.size, 0, none⟩ (.int .i64 (t : Int))).setCell ⟨w.heap.size, 1, none⟩ (.int .u64 0)).setCell ⟨w.heap.size, 2, none⟩ (.slice none 0 0)) := (((Only.refl (fun x => x = w.heap.size) W).setCell1 (g := w.heap.size) (.inl rfl) 0 _).setCell1 (g := w.heap.size) (.inl rfl) 1 _).setCell1 (g := w.heap.size) (.inl rfl) 2 _
    have HOO := Lib.hid hO
    exact ⟨_, w.heap.size, rfl, ⟨rfl, .inl ⟨rfl, rfl⟩⟩, Nat.le_refl _, St.other HS.out HOO.out (fun x hx e => by have := HOL.out x hx; omega),
      (Only.of_below HB1.out O).trans HOO.out (fun z hz => .inr (by rw [hz]; exact Nat.le_refl _))⟩
  | some x =>
    rw [hx] at hkn
    rw [hkn]
    dsimp only
    have hxl := getT_mem hx
    have hln : (normP gr now x.p).soft.length ≤ 100000 := Nat.le_trans (Nat.le_trans (List.length_filter_le _ _) (h1.ln.2 x hxl.1)) hn
    have HF := Lib.hid (fresh_some q1 t ht hx hn)
    have HNR := Lib.hid (fun (w' : World) (ho : Only (fun x => own x = some t) W w') (k : Nat) (v : Value) (hk : mget none m t = some k) (hp : PgAt w' own t k (normP gr now x.p) v) =>
      (⟨b, own, m, nrm gr now t l, q1.nrm ho hx hk hp, (by
        intro y hy
        obtain ⟨z, hz, rfl⟩ := List.mem_map.1 hy
        split
        · exact (h2 z hz).norm (h1.lok.p z hz) gr now
        · exact h2 z hz), (nrm_adv gr now t l).symm, h4⟩ : St w' g gr now last n (advD gr now l) O))
    have H4 := Lib.hid h4
    have HW := Lib.hid hW
    clear h1 h2 h4 hT q1 hx hb1 hz hkn hW hxl
    obtain ⟨p, hpe⟩ : ∃ p, p = normP gr now x.p := ⟨_, rfl⟩
    rw [← hpe] at HNR hln ⊢
    obtain ⟨ph, ps⟩ := p
    have HPE := Lib.hid hpe
    clear hpe
    dsimp only at hln
    go_enter Try.func18, Try.ntmps18
    go_wp2_with fail
    rw [HW.out]
    go_wp2_with (go_at_call 39; refine HC.out.mono ?_; rintro e w1 ⟨rfl, rfl⟩)
    refine HF.out.mono ?_
    rintro e w1 ⟨k, v, rfl, hk, pg, o1⟩
    rw [← HPE.out] at pg
    have hz1 := HZ.out.only o1 (fun e => by have := HOW.out _ _ e; omega)
    have hst := HNR.out _ o1 k v hk pg
    have HK := Lib.hid (fun j : Nat => (pg.below (below_drewN (Below.refl w1.heap.size w1) j)))
    have HCL := Lib.hid (fun (w' : World) (hp : PgAt w' own t k ⟨ph, ps⟩ v) => clone_any hp.row.rowAt (by show ps.length ≤ _; omega))
    have k0 := pg.blk.cell 0
    have k1 := pg.blk.cell 1
    have z0 := hz1.cell 0
    have z1 := hz1.cell 1
    have z2 := hz1.cell 2
    have hf := hz1.frozen
    have hkz : k ≠ w.heap.size := fun e => by have := HOW.out _ _ pg.ownk; omega
    have hkz2 : w.heap.size ≠ k := fun e => hkz e.symm
    have hkl := pg.blk.lt
    have hzl := hz1.lt
    have HST := Lib.hid hst
    have HZ1 := Lib.hid hz1
    have HO1 := Lib.hid o1
    clear HC HF HNR hk pg o1 hst hz1 HZ
    go_wp2_with fail
    go_region_held3 (fun w' => w'.cell? ⟨k, 0, none⟩ = some (.int .u64 (ph : Int)) ∧ w'.cell? ⟨k, 1, none⟩ = some v) (go_keep) ((go_at_call 41; refine (HCL.out _ (HK.out _)).mono ?_; rintro e w2 ⟨v2, rfl, ow, b2⟩; obtain ⟨p2, c2, rfl⟩ := own_form ow; have pg2 := (HK.out _).below b2; have y0 := pg2.blk.cell 0; have y1 := pg2.blk.cell 1; have zz := (Blk.drewN HZ1.out _).below b2 hzl; have x0 := zz.cell 0; have x1 := zz.cell 1; have x2 := zz.cell 2; have xf := zz.frozen))
    all_goals
      have B2 := Lib.hid b2
      have OW := Lib.hid ow
      clear pg2 zz ow b2 HCL HK k0 k1 z0 z1 z2 hf y0 y1
      go_wp2_with fail
      have hb12 : Below w1.heap.size w1 w2 := (below_drewN (Below.refl w1.heap.size w1) 1).trans B2.out
      have hz2 := HZ1.out.below hb12 hzl
      have hres : Blk (((w2.setCell ⟨w.heap.size, 0, none⟩ (.int .i64 (t : Int))).setCell ⟨w.heap.size, 1, none⟩ (.int .u64 (ph : Int))).setCell ⟨w.heap.size, 2, none⟩ (.slice p2 ps.length c2)) w.heap.size 43 #[.int .i64 (t : Int), .int .u64 (ph : Int), .slice p2 ps.length c2] := by
        simpa using ((hz2.set_ 0 (.int .i64 (t : Int))).set_ 1 (.int .u64 (ph : Int))).set_ 2 (.slice p2 ps.length c2)
      have r0 := hres.cell 0
      have r1 := hres.cell 1
      have r2 := hres.cell 2
      refine bodyPost_ret (v := .tuple #[.agg #[.int .i64 (t : Int), .int .u64 (ph : Int), .slice p2 ps.length c2], .int .i64 0]) (by simp [results, Try.results18, go_sem, r0, r1, r2]) rfl ?_
      have hO : Only (fun x => x = w.heap.size) w2 (((w2.setCell ⟨w.heap.size, 0, none⟩ (.int .i64 (t : Int))).setCell ⟨w.heap.size, 1, none⟩ (.int .u64 (ph : Int))).setCell ⟨w.heap.size, 2, none⟩ (.slice p2 ps.length c2)) := (((Only.refl (fun x => x = w.heap.size) w2).setCell1 (g := w.heap.size) (.inl rfl) 0 _).setCell1 (g := w.heap.size) (.inl rfl) 1 _).setCell1 (g := w.heap.size) (.inl rfl) 2 _
      have hwl : w.heap.size ≤ w1.heap.size := by omega
      refine ⟨_, (w1.drewN 1).heap.size, rfl, ownsRow_only OW.out hO (fun z hz e => by have := (OW.out.lt z hz).1; have e2 : (w1.drewN 1).heap.size = w1.heap.size := rfl; omega), hwl, St.other (St.below HST.out hb12) hO (fun x hx e => by have := HOL.out x hx; omega), ?_⟩
      refine (((Only.of_below HB1.out O).trans (HO1.out.more (S' := O) (fun z hz => .inl ((H4.out z).2 (.inr (.inr (by rw [hz]; simp)))))) (fun z hz => .inl hz)).trans (Only.of_below hb12 (fun _ => False)) (fun _ h => h.elim)).trans hO (fun z hz => .inr (by rw [hz]; exact Nat.le_refl _))
end Go.Proofs.Ytckdfnlleaifcaa
