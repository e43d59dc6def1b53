/- Calls of layer 19 beside the document's index, and copies. -/
import Derived.Test.YtfpkeinknhijaaaDixK
import Derived.Test.YtfpkeinknhijaaaRevY
import Derived.Test.YtfpkeinknhijaaaSwpW
namespace Go.Proofs.Ytfpkeinknhijaaa
set_option linter.unusedVariables false
open Go.RowKit Go.Maps Go.Sort

/-- What a call of the program may turn. -/
abbrev MsU (V : World) (P : Nat → Prop) (Bm Bw g : Nat) : Prop := ¬ Mk P Bm Bw g ∧ V.heap.size ≤ g
/-- How many times an index was turned after k calls, at most. -/
def nnF : Nat → Nat
  | 0 => 0
  | k + 1 => nnF k + 20 * k + 128
theorem nnF_le : ∀ k, k ≤ 50 → nnF k ≤ 31000 := by decide
section
variable {V w w' : World} {P : Nat → Prop} {x : Nat} {seed R : Int} {nn : Nat} {d d2 : Dx} {s n i rd Bm Bw : Nat} {a : Dp} {n2 i2 rd2 : Nat}
theorem Ms.addo (h : Ms V w P x seed R nn d s n i rd Bm Bw d2 a n2 i2 rd2) (hn : nn ≤ 90000) (hR0 : 0 ≤ R) (hR : R ≤ 2147483000) (id : Nat) (hid : id ≤ 18446744073709551615) (v : Value) (ts : List (List UInt8)) (hv : Reads w v (ts.map encStr)) (ht : ts.length ≤ 1000) {d' : Dx} {ns : List Nat} {er : Int} (hx : d.add 1000 id ts = (d', ns, er)) :
    Calls Try.prog 13 #[.pointer (some ⟨x, 0, none⟩), .int .u64 (id : Int), v] w fun e w' => ∃ v', e = .returned (.tuple #[v', .int .i64 er]) ∧ Ms V w' P x seed (R + 16) (nn + 16) d' s n i rd Bm Bw d2 a n2 i2 rd2 ∧ Only (MsU V P Bm Bw) w w' := by
  refine (h.1.add hn hR0 hR id hid v ts hv ht hx).mono ?_
  rintro e w' ⟨v', rfl, -, k, ho⟩
  exact ⟨v', rfl, h.prog (k.less (fun _ h => .inl h)) ho, ho⟩
theorem Ms.dropo (h : Ms V w P x seed R nn d s n i rd Bm Bw d2 a n2 i2 rd2) (hn : nn ≤ 100000) (hR : R ≤ 2147483647) (id : Nat) (hid : id ≤ 18446744073709551615) {d' : Dx} {ns : List Nat} {er : Int} (hx : d.drop id = (d', ns, er)) :
    Calls Try.prog 15 #[.pointer (some ⟨x, 0, none⟩), .int .u64 (id : Int)] w fun e w' => ∃ v', e = .returned (.tuple #[v', .int .i64 er]) ∧ Ms V w' P x seed R nn d' s n i rd Bm Bw d2 a n2 i2 rd2 ∧ Only (MsU V P Bm Bw) w w' := by
  refine (h.1.drop hn hR id hid hx).mono ?_
  rintro e w' ⟨v', rfl, -, k, ho⟩
  exact ⟨v', rfl, h.prog (k.less (fun _ h => .inl h)) ho, ho⟩
theorem Ms.stepso (h : Ms V w P x seed R nn d s n i rd Bm Bw d2 a n2 i2 rd2) (m : Nat) (hm : nn + m ≤ 100000) (hp : n < 65536) (hi : i ≤ 100001) (hrd : rd ≤ 1000000) {r : Sst} (hr : swGo m d n i 0 0 = r) :
    Calls Try.prog 39 #[.pointer (some ⟨s, 0, none⟩), .pointer (some ⟨x, 0, none⟩), .int .i64 (m : Int), .int .i64 (r.lk : Int), .int .i64 (r.gn : Int), .int .i64 0] w fun e w' => e = .returned (.bool true) ∧ Ms V w' P x seed R (nn + m) r.d s r.n r.i (if r.fin = true then rd + 1 else rd) Bm Bw d2 a n2 i2 rd2 ∧ Only (MsU V P Bm Bw) w w' := by
  refine (h.1.steps m hm hp hi hrd hr rfl rfl rfl).mono ?_
  rintro e w' ⟨rfl, k, ho⟩
  exact ⟨rfl, h.prog k ho, ho⟩
theorem Ms.allso (h : Ms V w P x seed R nn d s n i rd Bm Bw d2 a n2 i2 rd2) (hm : nn ≤ 40000) {b : Int} (hb : b = (wrongX d.all d.sl : Int)) :
    Calls Try.prog 42 #[.pointer (some ⟨x, 0, none⟩), .int .i64 b, .int .i64 0] w fun e w' => e = .returned (.bool true) ∧ Ms V w' P x seed R (nn + d.sl.length + 64) (liveSl d) s n i rd Bm Bw d2 a n2 i2 rd2 ∧ Only (MsU V P Bm Bw) w w' := by
  refine (h.1.alls hm hb).mono ?_
  rintro e w' ⟨rfl, k, ho⟩
  exact ⟨rfl, h.prog k ho, ho⟩
end
theorem Ri.apart {w : World} {x : Nat} {most seed R : Int} {n : Nat} {O Rd : Nat → Prop} {d : Dx} (h : Ri w x most seed R n O Rd d) {g : Nat} (hr : Rd g) : ¬ O g := by
  obtain ⟨tb, lb, sb, own, lm, sm, l0, h1, h2⟩ := h
  exact fun ho => (h2 g).1 ho (h1.rd g hr).1
/-- An index and a sweeper that are left behind, and the index's copy. -/
structure Mc (V w : World) (P : Nat → Prop) (x s y : Nat) (seed R : Int) (nn : Nat) (d : Dx) (n i rd Bm Bw : Nat) (a : Dp) (O Rd O' : Nat → Prop) : Prop where
  rx : Ri w x 1000 seed R nn O Rd d
  ry : Ri w y 1000 seed R nn O' Rd d
  sx : Swp w s n i rd
  md : Md V w P Bm Bw 1000 d a n i rd
  ap : ∀ g, O' g → ¬ O g
  kp : ∀ g, O g ∨ Rd g ∨ O' g → V.heap.size ≤ g ∧ ¬ Mk P Bm Bw g ∧ g ≠ s
  vs : V.heap.size ≤ s ∧ ¬ Mk P Bm Bw s
  bel : Below V.heap.size V w
section
variable {V w w' : World} {P : Nat → Prop} {x s y : Nat} {seed R : Int} {nn : Nat} {d : Dx} {n i rd Bm Bw : Nat} {a : Dp} {O Rd O' : Nat → Prop}
theorem Mc.below (h : Mc V w P x s y seed R nn d n i rd Bm Bw a O Rd O') (hb : Below w.heap.size w w') : Mc V w' P x s y seed R nn d n i rd Bm Bw a O Rd O' :=
  ⟨h.rx.below hb, h.ry.below hb, h.sx.below hb h.sx.lt, h.md.below hb, h.ap, h.kp, h.vs, h.bel.trans (hb.mono h.bel.size)⟩
theorem Ms.copyi (h : Ms V w P x seed R nn d s n i rd Bm Bw d a n i rd) (hn : nn ≤ 100000) :
    Calls Try.prog 32 #[.pointer (some ⟨x, 0, none⟩)] w fun e w' => ∃ y O Rd O', e = .returned (.pointer (some ⟨y, 0, none⟩)) ∧ Mc V w' P x s y seed R nn d n i rd Bm Bw a O Rd O' := by
  obtain ⟨O, Rd, h1, h2, h3, h4⟩ := h.1.kr
  refine (rcopy_any h1 hn).mono ?_
  rintro e w' ⟨y, O', rfl, hr, ho, hb⟩
  have hsz := h4.size
  refine ⟨y, O, Rd, O', rfl, h1.below hb, hr, h.1.sw.below hb h.1.sw.lt, h.2.below hb, fun g hg hO => ?_, fun g hg => ?_, ⟨h.1.hv, h.1.ns⟩, h4.trans (hb.mono h4.size)⟩
  · have := h1.lt (.inl hO); have := ho g hg; omega
  · rcases hg with hg | hg | hg
    · have := h2 g (.inl hg); exact ⟨this.1, fun hm => this.2 (.inl hm), fun he => this.2 (.inr he)⟩
    · have := h2 g (.inr hg); exact ⟨this.1, fun hm => this.2 (.inl hm), fun he => this.2 (.inr he)⟩
    · have hg2 := ho g hg
      exact ⟨by omega, fun hm => by have := h3 g (.inl hm); omega, fun he => by have := h3 g (.inr he); omega⟩
/-- The old ones are left: the copies go on. -/
theorem Mc.fin (h : Mc V w P x s y seed R nn d n i rd Bm Bw a O Rd O') {t : Nat} (ht : w.heap.size = t) {w3 : World} (ho : Only (StepO O s) (w.alloc (.cells (swCs n i rd) 102)) w3) : Ms V w3 P y seed R nn d t n i rd Bm Bw d a n i rd := by
  subst ht
  have hal : Below w.heap.size w (w.alloc (.cells (swCs n i rd) 102)) := (Below.refl _ _).alloc (Nat.le_refl _) _
  have h1 := h.below hal
  have hb : Blk (w.alloc (.cells (swCs n i rd) 102)) w.heap.size 102 (swCs n i rd) := Blk.new _ _ _
  have hsl := h.sx.lt
  have hU : ∀ g, StepO O s g → V.heap.size ≤ g ∧ ¬ Mk P Bm Bw g ∧ g < w.heap.size := fun g hg => by
    rcases hg with hg | hg
    · subst hg; exact ⟨h.vs.1, h.vs.2, hsl⟩
    · have := h.kp g (.inl hg); exact ⟨this.1, this.2.1, h.rx.lt (.inl hg)⟩
  have hmk : ∀ g, Mk P Bm Bw g → g < w.heap.size := fun g hg => by
    rcases hg with hg | hg | hg
    · exact (h.md.pl g hg).1
    · subst hg; exact h.md.bm.lt
    · subst hg; exact h.md.bw.lt
  have hry : ∀ g, O' g ∨ Rd g → V.heap.size ≤ g ∧ ¬ Mk P Bm Bw g ∧ g < w.heap.size ∧ ¬ StepO O s g := fun g hg => by
    have hk := h.kp g (hg.elim (fun h => .inr (.inr h)) (fun h => .inr (.inl h)))
    refine ⟨hk.1, hk.2.1, h.ry.lt hg, fun hs => ?_⟩
    rcases hs with hs | hs
    · exact hk.2.2 hs
    · rcases hg with hg | hg
      · exact h.ap g hg hs
      · exact h.rx.apart hg hs
  refine ⟨⟨⟨O', Rd, h1.ry.only ho (fun g hg => (hry g hg).2.2.2), fun g hg => ⟨(hry g hg).1, fun hs => ?_⟩, fun g hg => ?_, h1.bel.trans (ho.below (fun g hg => (hU g hg).1) h1.bel.size)⟩, Blk.only hb ho (fun hs => by have := (hU _ hs).2.2; omega), h.bel.size, fun hm => by have := hmk _ hm; omega⟩, h1.md.only ho (fun g hg => (hU g hg).2.1)⟩
  · rcases hs with hs | hs
    · exact (hry g hg).2.1 hs
    · have := (hry g hg).2.2.1; omega
  · have hz := ho.size
    have ha := hb.lt
    rcases hg with hg | hg
    · have := hmk g hg; omega
    · omega
end
end Go.Proofs.Ytfpkeinknhijaaa
