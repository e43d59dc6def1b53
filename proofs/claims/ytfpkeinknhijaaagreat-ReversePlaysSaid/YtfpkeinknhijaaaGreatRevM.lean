/- The document's index in a box of the law, beside the program's. -/
import Derived.Test.YtfpkeinknhijaaaGreatRevZ
import Derived.Test.YtfpkeinknhijaaaGreatDixG
import Derived.Test.YtfpkeinknhijaaaGreatDixD
import Derived.Test.YtfpkeinknhijaaaGreatDixE
namespace Go.Proofs.YtfpkeinknhijaaaGreat
set_option linter.unusedVariables false
open Go.RowKit Go.Maps Go.Sort

theorem xadd_all {w : World} {P : Nat → Prop} {d : Dx} {a : Dp} (h : Dix w P d a) (hP : ∀ g, P g → g < w.heap.size) {most R : Int} (hw : Iw most R d) (hm : most ≤ 65536) (hR0 : 0 ≤ R) (hR : R ≤ 2147483000) (hl : d.all.length ≤ 100000) (hls : d.sl.length ≤ 100000) (id : Nat) (hid : id ≤ 18446744073709551615) (v : Value) (ts : List (List UInt8)) (hv : Reads w v (ts.map encStr)) (ht : ts.length ≤ 1000000) :
    Calls Tryz.prog 9 #[dixV most d a, .int .u64 (id : Int), v] w (AddR w P most (d.add most id ts)) := by
  by_cases hbad : id ≤ lastE d.all ∨ tagsB ts = false
  · have he : d.add most id ts = (d, [], 2) := by unfold Dx.add; rw [if_pos hbad]
    rw [he]
    exact xadd_bad h hP most (by omega) id hid v ts hv ht hbad
  · exact xadd_good h hP hw hm hR0 hR hl hls id hid v ts hv (by omega) (by
      cases hb : tagsB ts with
      | true => rfl
      | false => exact absurd (.inr hb) hbad)
section
variable {V w w' : World} {S : Nat → Prop} {x : Nat} {most seed R : Int} {n : Nat} {d : Dx}
set_option maxHeartbeats 1000000 in
theorem Kr.addsR (k : Kr V w S x most seed R n d) (hn : n ≤ 10000) (hR0 : 0 ≤ R) (hR : R ≤ 2147483000) (id : Nat) (hid : id ≤ 18446744073709551615) (v : Value) (ts : List (List UInt8)) (hv : Reads w v (ts.map encStr)) (ht : ts.length ≤ 1000) {d' : Dx} {ns : List Nat} {er : Int} (hx : d.add most id ts = (d', ns, er)) (hns : ns.length ≤ 1000)
    (q : Option Addr) (c : Nat) (hw : RowS w S q ns.length c (numsV ns)) :
    Calls Tryz.prog 10 #[.pointer (some ⟨x, 0, none⟩), .int .u64 (id : Int), v, .slice q ns.length c, .int .i64 er] w (KrP V w S x most seed (R + 16) (n + 16) d') := by
  obtain ⟨O, Rd, h1, h2, h3, h4⟩ := k
  have H := rvadd_any h1 (Nat.le_trans hn (by decide)) hR0 hR id hid v ts hv ht
  rw [hx] at H
  have HT := Lib.hid (fun (w1 : World) O' Rd' hr hg hd => Kr.turn (S := S) (w' := w1) (O' := O') (Rd' := Rd') (R' := R + 16) (n' := n + 16) (d' := d') h1 h2 h3 h4 hr hg hd)
  have HW : Hid (∀ (w1 : World), Only (fun g => ¬ S g ∧ V.heap.size ≤ g) w w1 → Reads w1 (.slice q ns.length c) (numsV ns)) := fun w1 ho => by
    have h5 := (hw.only ho (fun g hg hs => hs.1 hg) : RowS w1 S q ns.length c (numsV ns))
    have h6 : RowS w1 S q (numsV ns).length c (numsV ns) := by rw [List.length_map]; exact h5
    have := RowS.reads h6 (by rw [List.length_map]; omega)
    rw [List.length_map] at this
    exact this
  have H := Lib.hid H
  clear h1 h2 h3 h4 hv hx hw
  go_enter Tryz.func10, Tryz.ntmps10
  go_wp2_with (first
    | (go_at_call 41; refine H.out.mono ?_; rintro e w1 ⟨v1, O', Rd', rfl, hv1, hr, hg, hd, _⟩; obtain ⟨k1, o1⟩ := HT.out w1 O' Rd' hr hg hd)
    | (go_at_call 42; refine (ints_any v1 _ ns w1 (Reads.own_ hv1 (by rw [List.length_map]) (by rw [List.length_map]; omega)) (HW.out _ o1)).mono ?_; rintro e w2 ⟨rfl, b2⟩))
  go_ret
  exact ⟨rfl, k1.quiet b2, o1.trans (Only.of_below b2 (fun _ => False)) (fun _ h => h.elim)⟩
set_option maxHeartbeats 1000000 in
theorem Kr.dropsR (k : Kr V w S x most seed R n d) (hn : n ≤ 100000) (hR : R ≤ 2147483647) (id : Nat) (hid : id ≤ 18446744073709551615) {d' : Dx} {ns : List Nat} {er : Int} (hx : d.drop id = (d', ns, er)) (hns : ns.length ≤ 1000)
    (q : Option Addr) (c : Nat) (hw : RowS w S q ns.length c (numsV ns)) :
    Calls Tryz.prog 12 #[.pointer (some ⟨x, 0, none⟩), .int .u64 (id : Int), .slice q ns.length c, .int .i64 er] w (KrP V w S x most seed R n d') := by
  obtain ⟨O, Rd, h1, h2, h3, h4⟩ := k
  have H := rvdrop_any h1 hn hR id hid
  rw [hx] at H
  have HT := Lib.hid (fun (w1 : World) O' hr hg => Kr.turn (S := S) (w' := w1) (O' := O') (Rd' := Rd) (R' := R) (n' := n) (d' := d') h1 h2 h3 h4 hr hg (fun _ h => .inl h))
  have HW : Hid (∀ (w1 : World), Only (fun g => ¬ S g ∧ V.heap.size ≤ g) w w1 → Reads w1 (.slice q ns.length c) (numsV ns)) := fun w1 ho => by
    have h5 := (hw.only ho (fun g hg hs => hs.1 hg) : RowS w1 S q ns.length c (numsV ns))
    have h6 : RowS w1 S q (numsV ns).length c (numsV ns) := by rw [List.length_map]; exact h5
    have := RowS.reads h6 (by rw [List.length_map]; omega)
    rw [List.length_map] at this
    exact this
  have H := Lib.hid H
  clear h1 h2 h3 h4 hx hw
  go_enter Tryz.func12, Tryz.ntmps12
  go_wp2_with (first
    | (go_at_call 45; refine H.out.mono ?_; rintro e w1 ⟨v1, O', rfl, hv1, hr, hg, _⟩; obtain ⟨k1, o1⟩ := HT.out w1 O' hr hg)
    | (go_at_call 42; refine (ints_any v1 _ ns w1 (Reads.own_ hv1 (by rw [List.length_map]) (by rw [List.length_map]; omega)) (HW.out _ o1)).mono ?_; rintro e w2 ⟨rfl, b2⟩))
  go_ret
  exact ⟨rfl, k1.quiet b2, o1.trans (Only.of_below b2 (fun _ => False)) (fun _ h => h.elim)⟩
end
theorem nums_row {w w' : World} {v : Value} {ns : List Nat} (h : w'.ownsRow w.heap.size 3 1 v ns.length (numsV ns)) {P : Nat → Prop} (hP : ∀ g, w.heap.size ≤ g → g < w'.heap.size → P g) : ∃ q c, v = .slice q ns.length c ∧ RowS w' P q ns.length c (numsV ns) := by
  obtain ⟨q, c, rfl⟩ := owns_form h
  refine ⟨q, c, rfl, ?_⟩
  rcases Nat.eq_zero_or_pos ns.length with h0 | h0
  · exact .inl h0
  · obtain ⟨g, c2, hv, hb, hg⟩ := h.form h0
    injection hv with e1 e2 e3
    subst e1 e3
    refine RowS.of_own h (by decide) (fun g' hg' => ?_)
    cases hg'
    exact hP g hb hg
/-- The program's index x and the document's in the box M0. -/
structure Mm (V w : World) (P : Nat → Prop) (M0 x : Nat) (most seed R : Int) (n : Nat) (d : Dx) (a : Dp) : Prop where
  kr : Kr V w (fun g => P g ∨ g = M0) x most seed R n d
  dx : Dix w P d a
  bm : Blk w M0 35 (dixCs most d a)
  pv : ∀ g, P g → V.heap.size ≤ g ∧ g ≠ M0
  mv : V.heap.size ≤ M0
/-- The document's index d', after a call, in the box T; the program's is at d. -/
structure Mh (V w : World) (P : Nat → Prop) (M0 T x : Nat) (most seed R : Int) (n : Nat) (d d0 d' : Dx) (a a' : Dp) : Prop where
  kr : Kr V w (fun g => P g ∨ g = M0) x most seed R n d
  dx : Dix w P d' a'
  bm : Blk w M0 35 (dixCs most d0 a)
  bt : Blk w T 35 (dixCs most d' a')
  pt : P T
  pv : ∀ g, P g → V.heap.size ≤ g ∧ g ≠ M0
  mv : V.heap.size ≤ M0
theorem blk4 {w : World} {M0 : Nat} {most : Int} {d : Dx} {a : Dp} (h : Blk w M0 35 (dixCs most d a)) : w.cell? ⟨M0, 0, none⟩ = some (.int .i64 most) ∧ w.cell? ⟨M0, 1, none⟩ = some (.slice a.p d.nm.length a.c) ∧ w.cell? ⟨M0, 2, none⟩ = some (.slice a.pA d.all.length a.cA) ∧ w.cell? ⟨M0, 3, none⟩ = some (.slice a.pS d.sl.length a.cS) := by
  have d0 := Blk.cell h 0
  have d1 := Blk.cell h 1
  have d2 := Blk.cell h 2
  have d3 := Blk.cell h 3
  simp only [List.getElem?_toArray, List.getElem?_cons_zero, List.getElem?_cons_succ] at d0 d1 d2 d3
  exact ⟨d0, d1, d2, d3⟩
theorem froz4 {w : World} {M0 : Nat} {t : TypeId} {c0 c1 c2 c3 : Value} (h : Blk w M0 t #[c0, c1, c2, c3]) : w.frozen? ⟨M0, 0, none⟩ = false ∧ w.frozen? ⟨M0, 1, none⟩ = false ∧ w.frozen? ⟨M0, 2, none⟩ = false ∧ w.frozen? ⟨M0, 3, none⟩ = false :=
  ⟨Blk.frozen h 0, Blk.frozen h 1, Blk.frozen h 2, Blk.frozen h 3⟩
section
variable {V w w' : World} {P : Nat → Prop} {M0 x : Nat} {most seed R : Int} {n : Nat} {d : Dx} {a : Dp}
theorem Mm.lt (h : Mm V w P M0 x most seed R n d a) : ∀ g, P g → g < w.heap.size := fun g hg => by
  obtain ⟨O, Rd, -, -, h3, -⟩ := h.kr
  exact h3 g (.inl hg)
theorem Mm.below (h : Mm V w P M0 x most seed R n d a) (hb : Below w.heap.size w w') : Mm V w' P M0 x most seed R n d a :=
  ⟨h.kr.quiet hb, h.dx.below hb, h.bm.below hb h.bm.lt, h.pv, h.mv⟩
theorem Mm.mono (h : Mm V w P M0 x most seed R n d a) {R' : Int} {n' : Nat} (hR : R ≤ R') (hn : n ≤ n') : Mm V w P M0 x most seed R' n' d a :=
  ⟨h.kr.mono hR hn, h.dx, h.bm, h.pv, h.mv⟩
theorem Mm.facts (h : Mm V w P M0 x most seed R n d a) : d.nm.length ≤ 65536 ∧ d.sl.length ≤ n ∧ d.all.length ≤ n ∧ most ≤ 65536 ∧ Iw most R d := by
  have hf := h.kr.facts
  have := hf.1.wf.size
  exact ⟨by omega, hf.2.1, hf.2.2.1, hf.2.2.2.2.1, hf.1⟩
/-- New memory is kept, too. -/
theorem Mm.keep (h : Mm V w P M0 x most seed R n d a) (hb : Below w.heap.size w w') : Mm V w' (Nw w w' P) M0 x most seed R n d a := by
  have hlm := h.bm.lt
  have hvs := h.kr.bel.size
  refine ⟨h.kr.keep hb (fun g hg => ?_), (h.dx.below hb).more (fun g hg => .inl hg), h.bm.below hb hlm, fun g hg => ?_, h.mv⟩
  · rcases hg with (hg | hg) | hg
    · exact .inl (.inl hg)
    · exact .inr hg
    · exact .inl (.inr hg)
  · rcases hg with hg | hg
    · exact h.pv g hg
    · exact ⟨by omega, by omega⟩
/-- Behind a call of the document, its result in a new box. -/
theorem Mm.hold (h : Mm V w P M0 x most seed R n d a) {w5 : World} (hb : Below w.heap.size w w5) {d' : Dx} {a' : Dp} (hd : Dix w5 (Nw w w5 P) d' a') {T : Nat} (hT : w5.heap.size = T) :
    Mh V (w5.alloc (.cells (dixCs most d' a') 35)) (Nw w (w5.alloc (.cells (dixCs most d' a') 35)) P) M0 T x most seed R n d d d' a a' := by
  subst hT
  have hal : Below w5.heap.size w5 (w5.alloc (.cells (dixCs most d' a') 35)) := (Below.refl _ _).alloc (Nat.le_refl _) _
  have k := h.keep (hb.trans (hal.mono hb.size))
  have hbt : Blk (w5.alloc (.cells (dixCs most d' a') 35)) w5.heap.size 35 (dixCs most d' a') := Blk.new _ _ _
  exact ⟨k.kr, (hd.below hal).more (fun g hg => hg.imp (fun h => h) (fun h => ⟨h.1, Nat.lt_of_lt_of_le h.2 hal.size⟩)), k.bm, hbt, .inr ⟨hb.size, hbt.lt⟩, k.pv, k.mv⟩
/-- A call of the program. -/
theorem Mh.prog {T : Nat} {d0 d' : Dx} {a' : Dp} (h : Mh V w P M0 T x most seed R n d d0 d' a a') {R' : Int} {n' : Nat} {d2 : Dx} {e : Ending} (hp : KrP V w (fun g => P g ∨ g = M0) x most seed R' n' d2 e w') : e = .returned (.bool true) ∧ Mh V w' P M0 T x most seed R' n' d2 d0 d' a a' := by
  obtain ⟨rfl, k, ho⟩ := hp
  exact ⟨rfl, k, h.dx.only ho (fun g hg hs => hs.1 (.inl hg)), h.bm.only ho (fun hs => hs.1 (.inr rfl)), h.bt.only ho (fun hs => hs.1 (.inl h.pt)), h.pt, h.pv, h.mv⟩
/-- The new index is stored. -/
theorem Mh.store {T : Nat} {d0 : Dx} {a' : Dp} (h : Mh V w P M0 T x most seed R n d d0 d a a') : Mm V (putX w M0 most d a') P M0 x most seed R n d a' := by
  have ho := putX_only (w := w) (R := M0) most d a'
  have k := h.kr.other (S := fun g => P g ∨ g = M0) (w' := putX w M0 most d a') (ho.more (fun g hg => .inl (.inr hg))) (fun g hg => by
    rcases hg with hg | hg
    · exact (h.pv g hg).1
    · rw [hg]; exact h.mv)
  exact ⟨k, h.dx.only ho (fun g hg he => (h.pv g hg).2 he), putX_blk h.bm _ _ _, h.pv, h.mv⟩
/-- The law's is. -/
theorem Mm.isx (h : Mm V w P M0 x most seed R n d a) (hn : n ≤ 10000) (what : Int) (id : Nat) (tp : Option Addr) (tc : Nat) (ts : List (List UInt8)) (an ai : Int) (hT : Reads w (.slice tp ts.length tc) (ts.map encStr)) (hTo : ∀ g, (Value.slice tp ts.length tc).ownBlock = some g → (P g ∨ g = M0) ∨ g < V.heap.size) (htl : ts.length ≤ 1000) (htb : ∀ s ∈ ts, s.length ≤ 1000) :
    Calls Tryz.prog 8 #[.pointer (some ⟨x, 0, none⟩), dixV most d a, .agg #[.int .i64 what, .int .u64 (id : Int), .slice tp ts.length tc, .int .i64 an, .int .i64 ai]] w
      fun e w' => e = .returned (.bool true) ∧ Mm V w' P M0 x most seed R n d a ∧ Only (fun g => ¬ (P g ∨ g = M0) ∧ V.heap.size ≤ g) w w' := by
  refine (ris_any h.kr hn h.dx (fun g hg => .inl hg) (by have := h.facts.1; omega) what id tp tc ts an ai hT hTo htl htb).mono ?_
  rintro e w' ⟨rfl, k, ho⟩
  exact ⟨rfl, ⟨k, h.dx.only ho (fun g hg hs => hs.1 (.inl hg)), h.bm.only ho (fun hs => hs.1 (.inr rfl)), h.pv, h.mv⟩, ho⟩
end
end Go.Proofs.YtfpkeinknhijaaaGreat
