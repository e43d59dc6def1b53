/- The program's Copy. -/
import Derived.Test.YtckdfnlleaifcaaStmL
import Derived.Deep.AppendLies
namespace Go.Proofs.Ytckdfnlleaifcaa
set_option linter.unusedVariables false
open Go.RowKit Go.Maps Go.Sort

theorem tup_same {l l2 : List Tg} (h : TUp l) (h2 : TUp l2) (hm : ∀ x, x ∈ l2 ↔ x ∈ l) : l2 = l := by
  have n1 : l.Nodup := h.imp (fun {a b} hab e => by rw [e] at hab; omega)
  have n2 : l2.Nodup := h2.imp (fun {a b} hab e => by rw [e] at hab; omega)
  have hp : l2.Perm l := (List.perm_ext_iff_of_nodup n2 n1).2 hm
  exact List.Perm.eq_of_pairwise (le := fun a b : Tg => a.tag < b.tag) (fun a b _ _ h1 h2 => by omega) h2 h hp
/-- The copy so far. -/
structure Cy (w0 wr : World) (g gr now last b n : Nat) (own : Nat → Option Nat) (m : List (Nat × Option Nat)) (l : List Tg) (g2 b2 RB : Nat) (ks : List Nat) (own2 : Nat → Option Nat) (m2 : List (Nat × Option Nat)) (lc : List Tg) : Prop where
  sy : Sy wr g gr now last b n own m l
  cy : Sy wr g2 gr now last b2 n own2 m2 lc
  mt : MapS wr b2 ks.length m2
  mem : ∀ x, x ∈ lc ↔ x ∈ l ∧ x.tag ∈ ks
  lcl : lc.length ≤ ks.length
  rbl : RB < wr.heap.size
  bel : Below w0.heap.size w0 wr
  new : ∀ x t, own2 x = some t → w0.heap.size ≤ x ∧ x ≠ RB
  g2b : w0.heap.size ≤ g2 ∧ w0.heap.size ≤ b2 ∧ g2 ≠ RB ∧ b2 ≠ RB ∧ w0.heap.size ≤ RB
  old : (g < w0.heap.size ∧ b < w0.heap.size) ∧ ∀ x t, own x = some t → x < w0.heap.size
section
variable {w0 wr w1 w7 : World} {g gr now last b n g2 b2 RB : Nat} {own own2 : Nat → Option Nat} {m m2 : List (Nat × Option Nat)} {l lc : List Tg} {ks : List Nat}
theorem Cy.rb (h : Cy w0 wr g gr now last b n own m l g2 b2 RB ks own2 m2 lc) (hg : wr.grownBy w1 (some RB)) : Cy w0 w1 g gr now last b n own m l g2 b2 RB ks own2 m2 lc := by
  have ho : Only (fun x => x = RB) wr w1 := Only.of_grown (S := fun x => x = RB) hg rfl
  obtain ⟨h1, h2, h3, h4, h5⟩ := h.g2b
  obtain ⟨⟨h6, h7⟩, h8⟩ := h.old
  exact ⟨h.sy.other ho (by omega) (by omega) (fun x t hx => by have := h8 x t hx; omega), h.cy.other ho h3 h4 (fun x t hx => (h.new x t hx).2), h.mt.kept hg (fun e => h4 (Option.some.inj e)), h.mem, h.lcl, Nat.lt_of_lt_of_le h.rbl hg.size, h.bel.grown hg h.bel.size (fun j hj => by cases hj; exact h5), h.new, h.g2b, h.old⟩
theorem Cy.below (h : Cy w0 wr g gr now last b n own m l g2 b2 RB ks own2 m2 lc) (hb : Below wr.heap.size wr w1) : Cy w0 w1 g gr now last b n own m l g2 b2 RB ks own2 m2 lc :=
  ⟨h.sy.below hb, h.cy.below hb, h.mt.kept (row := none) (only_of_below hb none) (by simp), h.mem, h.lcl, Nat.lt_of_lt_of_le h.rbl hb.size, h.bel.trans (hb.mono h.bel.size), h.new, h.g2b, h.old⟩
theorem mem_ins {x y : Tg} {d : List Tg} (hd : TUp d) (h : x = y ∨ (x ∈ d ∧ x.tag ≠ y.tag)) : x ∈ insT y d := by
  rcases h with rfl | ⟨h1, h2⟩
  · exact (getT_mem (getT_ins_same x hd)).1
  · have := getT_of hd h1
    rw [← getT_ins_other (x := y) h2 d] at this
    exact (getT_mem this).1
theorem Cy.step (h : Cy w0 w1 g gr now last b n own m l g2 b2 RB ks own2 m2 lc) {y : Tg} (hy : y ∈ l) {kk : Nat} {v : Value} (ho : Only (fun x => x = b2) w1 w7) (hb2 : b2 < w1.heap.size) (hm : MapS w7 b2 (ks.length + 1) (mput m2 y.tag (some kk))) (hkn : ks.length + 1 ≤ n)
    (hblk : Blk w7 kk 80 #[.int .u64 (y.p.hard : Int), v]) (hrow : Mid w7 2 v y.p.soft.length (softCells y.p.soft)) (hkk : w1.heap.size ≤ kk ∧ kk < w7.heap.size) (hv : ∀ z, v.ownBlock = some z → w1.heap.size ≤ z ∧ z < w7.heap.size ∧ z ≠ kk) :
    Cy w0 w7 g gr now last b n own m l g2 b2 RB (ks ++ [y.tag]) (ownN w1 w7 y.tag own2) (mput m2 y.tag (some kk)) (insT y lc) := by
  obtain ⟨h1, h2, h3, h4, h5⟩ := h.g2b
  obtain ⟨⟨h6, h7⟩, h8⟩ := h.old
  have hap := h.mt.apart Try.underlying3
  have hlen : (insT y lc).length ≤ ks.length + 1 := Nat.le_trans (insT_len _ _) (by have := h.lcl; omega)
  have hp : PgAt w7 (ownN w1 w7 y.tag own2) y.tag kk y.p v := ⟨hblk, hrow, ownN_new hkk.1 hkk.2, fun z hz => ⟨ownN_new (hv z hz).1 (hv z hz).2.1, (hv z hz).2.2⟩⟩
  have hput := h.cy.put (n' := n) (ho.more (fun z hz => .inl (.inl hz))) (hm.mono hkn) (fun t' ht' => mget_put_other hap ht' _) (mget_put_same hap _ _) (mput_keys y.tag _ m2 (h.mt.sorted Try.underlying3)) hp (h.sy.lok.p y hy) (h.sy.lok.tag y hy) (Nat.le_refl _) (Nat.le_trans hlen hkn) (h.sy.ln.2 y hy)
  have hbs := h.bel.size
  refine ⟨h.sy.other ho (by omega) (by omega) (fun x t hx => by have := h8 x t hx; omega), hput, by simpa using hm, fun x => ?_, by simpa using hlen, Nat.lt_of_lt_of_le h.rbl ho.size, h.bel.trans (ho.below (fun x hx => by omega) hbs), fun x t hx => ?_, h.g2b, h.old⟩
  · constructor
    · intro hx
      rcases insT_mem hx with rfl | hx
      · exact ⟨hy, by simp⟩
      · obtain ⟨k1, k2⟩ := (h.mem x).1 hx
        exact ⟨k1, List.mem_append.2 (.inl k2)⟩
    · rintro ⟨k1, k2⟩
      refine mem_ins h.cy.lok.up ?_
      by_cases e : x.tag = y.tag
      · left
        have e1 := getT_of h.sy.lok.up k1
        rw [e, getT_of h.sy.lok.up hy] at e1
        exact (Option.some.inj e1).symm
      · right
        refine ⟨(h.mem x).2 ⟨k1, ?_⟩, e⟩
        rcases List.mem_append.1 k2 with k3 | k3
        · exact k3
        · exact absurd (List.mem_singleton.1 k3) e
  · unfold ownN at hx
    split at hx
    · rename_i hr
      have := h.rbl
      omega
    · exact h.new x t hx
end
def CopP (w : World) (gr now last n : Nat) (d : List Tg) (e : Ending) (w' : World) : Prop :=
  ∃ g' O', e = .returned (.pointer (some ⟨g', 0, none⟩)) ∧ St w' g' gr now last n d O' ∧ (∀ x, O' x → w.heap.size ≤ x) ∧ Below w.heap.size w w'
set_option maxHeartbeats 8000000 in
set_option maxRecDepth 100000 in
theorem copy_raw {w : World} {g gr now last b n : Nat} {own : Nat → Option Nat} {m : List (Nat × Option Nat)} {l : List Tg} (h : Sy w g gr now last b n own m l) (hne : LNe l) (hn : n ≤ 100000) :
    Calls Try.prog 30 #[.pointer (some ⟨g, 0, none⟩)] w (CopP w gr now last n (advD gr now l)) := by
  have HC := Lib.hid (none_blk h.bk)
  have hap := h.mp.apart Try.underlying3
  have hlen : m.length ≤ n := h.mp.size
  have HM := Lib.hid h.mp.1
  have hmm := @run_makeMap Try.prog
  obtain ⟨c0, c1, c2, c3⟩ := h.cells
  have a0 := Blk.cell (h.bk.alloc (.map #[] 0)) 0
  have a1 := Blk.cell (h.bk.alloc (.map #[] 0)) 1
  have a2 := Blk.cell (h.bk.alloc (.map #[] 0)) 2
  have z0 : (w.alloc (.map #[] 0)).drew.cell? ⟨g, 0, none⟩ = some (.int .u64 (gr : Int)) := a0
  have z1 : (w.alloc (.map #[] 0)).drew.cell? ⟨g, 1, none⟩ = some (.int .u64 (now : Int)) := a1
  have z2 : (w.alloc (.map #[] 0)).drew.cell? ⟨g, 2, none⟩ = some (.int .u64 (last : Int)) := a2
  simp only [List.getElem?_toArray, List.getElem?_cons_zero, List.getElem?_cons_succ] at a0 a1 a2
  have HAP := Lib.hid hap
  have HS := Lib.hid h
  have HNE := Lib.hid hne
  clear h hap hne
  go_enter Try.func30, Try.ntmps30
  go_wp2_with (go_at_call 36; refine HC.out.mono ?_; rintro e w1 ⟨rfl, rfl⟩)
  go_region
  clear c0 c1 c2 c3 a0 a1 a2 z0 z1 z2 hmm HC HM
  have hbW : Below w.heap.size w (((w.alloc (.map #[] 0)).alloc (.cells #[.int .u64 (gr : Int), .int .u64 (now : Int), .int .u64 (last : Int), .map (some w.heap.size)] 60)).drew) := (((Below.refl _ _).alloc (Nat.le_refl _) _).alloc (by simp) _).drew
  have HSW := Lib.hid (HS.out.below hbW)
  have hbk0 : Blk ((w.alloc (.map #[] 0)).alloc (.cells #[.int .u64 (gr : Int), .int .u64 (now : Int), .int .u64 (last : Int), .map (some w.heap.size)] 60)) (w.heap.size + 1) 60 #[.int .u64 (gr : Int), .int .u64 (now : Int), .int .u64 (last : Int), .map (some w.heap.size)] := by
    simpa using Blk.new (w.alloc (.map #[] 0)) 60 #[.int .u64 (gr : Int), .int .u64 (now : Int), .int .u64 (last : Int), .map (some w.heap.size)]
  have hbk : Blk (((w.alloc (.map #[] 0)).alloc (.cells #[.int .u64 (gr : Int), .int .u64 (now : Int), .int .u64 (last : Int), .map (some w.heap.size)] 60)).drew) (w.heap.size + 1) 60 #[.int .u64 (gr : Int), .int .u64 (now : Int), .int .u64 (last : Int), .map (some w.heap.size)] := hbk0
  have hmp : MapS (((w.alloc (.map #[] 0)).alloc (.cells #[.int .u64 (gr : Int), .int .u64 (now : Int), .int .u64 (last : Int), .map (some w.heap.size)] 60)).drew) w.heap.size 0 [] := MapS.turn ((World.mapv.made (val := ptrV) (q := .i64) w Try.prog 3 (fun _ => True)).kept (row := none) (World.grownBy_alloc _ (.cells #[.int .u64 (gr : Int), .int .u64 (now : Int), .int .u64 (last : Int), .map (some w.heap.size)] 60) none) (by simp)) rfl
  have CYW : Hid (Sy (((w.alloc (.map #[] 0)).alloc (.cells #[.int .u64 (gr : Int), .int .u64 (now : Int), .int .u64 (last : Int), .map (some w.heap.size)] 60)).drew) (w.heap.size + 1) gr now last w.heap.size n (fun _ => none) [] []) :=
    ⟨hbk, hmp.mono (Nat.zero_le _), rfl, rfl, (fun x t hx => by cases hx), rfl, (fun x hx => by cases hx), LOk.nil now last, ⟨Nat.zero_le _, fun x hx => by cases hx⟩, HS.out.gb, HS.out.nb, HS.out.lb⟩
  have HMP := Lib.hid hmp
  have HBW := Lib.hid hbW
  clear hbk hbk0 hmp hbW
  generalize ((w.alloc (.map #[] 0)).alloc (.cells #[.int .u64 (gr : Int), .int .u64 (now : Int), .int .u64 (last : Int), .map (some w.heap.size)] 60)).drew = W at *
  obtain ⟨c0, c1, c2, c3⟩ := HSW.out.cells
  have HM := Lib.hid HSW.out.mp.1
  go_wp2_with (first
    | (at_range; refine wpList_range_own _ rfl _ 58 rfl 3 77 (int_keyed Try.underlying3) Try.underlying58 (Rv ptrV (fun _ => True)) b n _ rfl (HM.out) ?_; intro w0 hrg0 hg0 hs0)
    | go_in)
  have hbW0 : Below W.heap.size W w0 := ⟨hg0.os, hg0.tape, hg0.output, hg0.size, fun k hk => hg0.block k hk (by simp)⟩
  have CY0 : Hid (Cy w w0 g gr now last b n own m l (w.heap.size + 1) w.heap.size W.heap.size [] (fun _ => none) [] []) :=
    ⟨HSW.out.below hbW0, CYW.out.below hbW0, HMP.out.kept hg0 (by simp), (fun x => by simp), Nat.le_refl _, by omega, HBW.out.trans (hbW0.mono HBW.out.size), (fun x t hx => by cases hx), ⟨by omega, by omega, by have := CYW.out.bk.lt; omega, by have := CYW.out.mp.lt; omega, by have := HBW.out.size; omega⟩, ⟨⟨HS.out.bk.lt, HS.out.mp.lt⟩, HS.out.ol⟩⟩
  obtain ⟨RB, hRB⟩ : ∃ RB, W.heap.size = RB := ⟨_, rfl⟩
  rw [hRB] at CY0 hrg0 ⊢
  have HRG0 := Lib.hid hrg0
  clear c0 c1 c2 c3 hRB hg0 hs0 hrg0 hbW0 HMP CYW HSW HM
  go_frame
  go_loopw [] (fun wr => ∃ (left : Lit → Bool) (cnt : Nat) (ks : List Nat) (own2 : Nat → Option Nat) (m2 : List (Nat × Option Nat)) (lc : List Tg), wr.ranges Try.prog 3 (Rv ptrV (fun _ => True)) b RB n (liftM ptrV .i64 m) left cnt ∧ ks.Perm ((doneL .i64 left m).map (·.1)) ∧ Cy w wr g gr now last b n own m l (w.heap.size + 1) w.heap.size RB ks own2 m2 lc)
    (fun wr => wr.rangeLeft b RB)
  case atStart => exact ⟨_, _, [], _, _, _, HRG0.out, by rw [doneL_start]; exact List.Perm.refl _, CY0.out⟩
  case round =>
    clear CY0 HRG0
    obtain ⟨left, cnt, ks, own2, m2, lc, hrg, hpm, hcy⟩ := hrel
    have HRG := Lib.hid hrg
    have HPM := Lib.hid hpm
    have CY := Lib.hid hcy
    clear hrg hpm hcy
    go_wp2_with (first
      | (at_next; refine wpList_next_v (val := ptrV) (q := .i64) (w := wr) rfl _ rfl Try.underlying3 RB left cnt none rfl HRG.out HAP.out ptrV_inj ?_ ?_)
      | go_in)
    · intro hdone
      have HD := Lib.hid hdone
      clear hdone
      go_wp2_with fail
      go_ret
      have hpm2 := HPM.out
      rw [HD.out, HS.out.keys] at hpm2
      have hlc : lc = l := tup_same HS.out.lok.up CY.out.cy.lok.up (fun x => by
        rw [CY.out.mem]
        exact ⟨fun h => h.1, fun h => ⟨h, hpm2.mem_iff.2 (List.mem_map.2 ⟨x, h, rfl⟩)⟩⟩)
      have hcy := CY.out.cy
      rw [hlc] at hcy
      refine ⟨_, fun x => x = w.heap.size + 1 ∨ x = w.heap.size ∨ own2 x ≠ none, rfl, ⟨_, _, _, l, hcy, HNE.out, rfl, fun x => Iff.rfl⟩, fun x hx => ?_, CY.out.bel⟩
      rcases hx with hx | hx | hx
      · omega
      · omega
      · cases ho : own2 x with
        | none => exact absurd ho hx
        | some t => exact (CY.out.new x t ho).1
    · intro k c w1 left1 cnt1 hmem hperm hrg1 hlt hg1 hs1 hen
      obtain ⟨y, hy, rfl⟩ : ∃ y, y ∈ l ∧ y.tag = k := by
        have : k ∈ m.map (·.1) := List.mem_map.2 ⟨_, hmem, rfl⟩
        rw [HS.out.keys] at this
        obtain ⟨y, h1, h2⟩ := List.mem_map.1 this
        exact ⟨y, h1, h2⟩
      have C1 := Lib.hid (CY.out.rb hg1)
      obtain ⟨kk, v, hmk, pg⟩ := C1.out.sy.at_ y hy
      obtain rfl : c = some kk := by rw [← mget_mem HAP.out hmem, hmk]
      have HR1 := Lib.hid hrg1
      have HP1 : Hid ((ks ++ [y.tag]).Perm ((doneL .i64 left1 m).map (·.1))) := by
        have h5 := hperm.map (·.1)
        rw [List.map_cons] at h5
        exact (List.perm_append_comm.trans (List.Perm.cons y.tag HPM.out)).trans h5.symm
      have hkn : ks.length + 1 ≤ n := by
        have h5 := HP1.out.length_eq
        rw [List.length_append, List.length_map] at h5
        have h6 : (doneL IntKind.i64 left1 m).length ≤ m.length := List.length_filter_le _ _
        have : [y.tag].length = 1 := rfl
        omega
      have HLT := Lib.hid hlt
      have HLE := Lib.hid (HRG.out.left_eq)
      have HY := Lib.hid hy
      have hsl := Nat.le_trans (C1.out.sy.ln.2 y hy) hn
      have hyt := C1.out.sy.lok.tag y hy
      have hwf := wf_i64 (t := y.tag) (by omega)
      have PG := Lib.hid pg
      have D1 := Lib.hid (C1.out.below ((Below.refl _ _).drew : Below w1.heap.size w1 w1.drew))
      have PGD := Lib.hid (pg.below ((Below.refl _ _).drew : Below w1.heap.size w1 w1.drew))
      have hz2 : ∀ X : World, (zeroValue 77).run Try.prog X = .ok (ptrV none) X := ptr_zero
      obtain ⟨yt, ⟨ph, ps⟩⟩ := y
      dsimp only at hsl hyt hwf HP1 hen pg PG PGD ⊢
      obtain ⟨pv, cv, rfl, _, _⟩ := pg.row.form
      have k0 := Blk.cell PG.out.blk 0
      have k1 := Blk.cell PG.out.blk 1
      have q3 := C1.out.cy.cells.2.2.2
      simp only [List.getElem?_toArray, List.getElem?_cons_zero, List.getElem?_cons_succ] at k0 k1
      clear hmem hperm hrg1 hg1 hlt HPM HRG CY hs1 hmk pg hy
      unfold ptrV at hen ⊢
      dsimp only at hen ⊢
      go_wp2_with fail
      clear q3 k0 k1
      have hold := D1.out.old
      have hg2b := D1.out.g2b
      have hkn2 : kk < w.heap.size := hold.2 _ _ PGD.out.ownk
      have q3 := D1.out.cy.cells.2.2.2
      have k0 := Blk.cell PGD.out.blk 0
      have k1 := Blk.cell PGD.out.blk 1
      simp only [List.getElem?_toArray, List.getElem?_cons_zero, List.getElem?_cons_succ] at k0 k1
      have hps : ps.length ≤ 1000000 := by omega
      have hml : ks.length < maxLen := by unfold maxLen; omega
      have hne1 : ¬ w.heap.size + 1 = w.heap.size := by omega
      have hkne : ¬ kk = w.heap.size := by omega
      go_region_held3 (fun w' => w'.cell? ⟨w.heap.size + 1, 3, none⟩ = some (.map (some w.heap.size)) ∧ w'.cell? ⟨kk, 0, none⟩ = some (.int .u64 (ph : Int)) ∧ w'.cell? ⟨kk, 1, none⟩ = some (.slice pv ps.length cv)) (go_keep) ((go_at_call 41; refine (clone_any PGD.out.row.rowAt hps).mono ?_; rintro e w4 ⟨v4, rfl, ow4, b4⟩; obtain ⟨p4, c4, rfl⟩ := own_form ow4; have D4 := Lib.hid (D1.out.below b4); have PG4 := Lib.hid (PGD.out.below b4); have q43 := D4.out.cy.cells.2.2.2; have k40 := Blk.cell PG4.out.blk 0; have k41 := Blk.cell PG4.out.blk 1; have a5 := (Below.refl w4.heap.size w4).alloc (Nat.le_refl _) (.cells #[.int .u64 (ph : Int), .slice p4 ps.length c4] 80); have D5 := Lib.hid (D4.out.below a5); have PG5 := Lib.hid (PG4.out.below a5); have q53 := D5.out.cy.cells.2.2.2; have k50 := Blk.cell PG5.out.blk 0; have k51 := Blk.cell PG5.out.blk 1; simp only [List.getElem?_toArray, List.getElem?_cons_zero, List.getElem?_cons_succ] at k40 k41 k50 k51; obtain ⟨w7, hrun0, m7, g7⟩ := D5.out.mt.update Try.underlying3 Try.underlying58 hml (a := some w4.heap.size) trivial (s := yt) hwf; have hrun : Sem.run Try.prog (Instr.mapUpdate 58 (.map (some w.heap.size)) (.int .i64 (yt : Int)) (.pointer (some ⟨w4.heap.size, 0, none⟩))) (w4.alloc (.cells #[.int .u64 (ph : Int), .slice p4 ps.length c4] 80)) = .ok () w7 := hrun0; have ho7 : Only (fun x => x = w.heap.size) (w4.alloc (.cells #[.int .u64 (ph : Int), .slice p4 ps.length c4] 80)) w7 := Only.of_grown (S := fun x => x = w.heap.size) g7 rfl; have q73 := Blk.cell (D5.out.cy.bk.only ho7 hne1) 3; have k70 := Blk.cell (PG5.out.blk.only ho7 hkne) 0; have k71 := Blk.cell (PG5.out.blk.only ho7 hkne) 1; simp only [List.getElem?_toArray, List.getElem?_cons_zero, List.getElem?_cons_succ] at q73 k70 k71; have M7 := Lib.hid m7; have G7 := Lib.hid g7; have HO7 := Lib.hid ho7; have OW4 := Lib.hid ow4; have B4 := Lib.hid b4; clear ow4 b4 a5 m7 g7 ho7 hrun0))
      clear hrun
      clear q3 k0 k1 q43 k40 k41 q53 k50 k51 q73 k70 k71
      have hgl := D1.out.cy.bk.lt
      have hb4 := B4.out.size
      have a5 : Below w4.heap.size w4 (w4.alloc (.cells #[.int .u64 (ph : Int), .slice p4 ps.length c4] 80)) := (Below.refl w4.heap.size w4).alloc (Nat.le_refl _) _
      have h14 : Below w1.drew.heap.size w1.drew (w4.alloc (.cells #[.int .u64 (ph : Int), .slice p4 ps.length c4] 80)) := B4.out.trans (a5.mono hb4)
      have ho : Only (fun x => x = w.heap.size) w1.drew w7 := (Only.of_below h14 (fun x => x = w.heap.size)).trans HO7.out (fun z hz => .inl hz)
      have hnw : Blk w7 w4.heap.size 80 #[.int .u64 (ph : Int), .slice p4 ps.length c4] := (Blk.new w4 _ _).only HO7.out (by omega)
      have hrow : Mid w7 2 (.slice p4 ps.length c4) ps.length (softCells ps) := ((Mid.of_own OW4.out (by unfold maxLen; omega)).below a5).only HO7.out (fun z hz => by have := (OW4.out.lt z hz).1; omega)
      have hsteps := D1.out.step (w7 := w7) HY.out ho (by omega) M7.out hkn hnw hrow ⟨hb4, hnw.lt⟩ (fun z hz => by have h5 := OW4.out.lt z hz; exact ⟨h5.1, by have := hnw.lt; omega, by omega⟩)
      have hgr : w1.grownBy w7 (some w.heap.size) := only_trans (only_of_below ((Below.refl w1.heap.size w1).drew.trans h14) (some w.heap.size)) G7.out
      have hrb := D1.out.rbl
      have HST := Lib.hid hsteps
      have HR7 := Lib.hid (HR1.out.kept hgr (by intro e; have := Option.some.inj e; omega) (by intro e; have := Option.some.inj e; omega))
      clear hsteps hgr hnw hrow ho h14 a5
      go_wp2_with fail
      go_roundw
      case rel => exact ⟨left1, cnt1, ks ++ [yt], _, _, _, HR7.out, HP1.out, HST.out⟩
      case measure => rw [HR7.out.left_eq, HLE.out]; exact HLT.out
theorem copy_any {w : World} {g gr now last n : Nat} {d : List Tg} {O : Nat → Prop} (h : St w g gr now last n d O) (hn : n ≤ 100000) :
    Calls Try.prog 30 #[.pointer (some ⟨g, 0, none⟩)] w (CopP w gr now last n d) := by
  obtain ⟨b, own, m, l, h1, h2, rfl, h4⟩ := h
  exact copy_raw h1 h2 hn
end Go.Proofs.Ytckdfnlleaifcaa
