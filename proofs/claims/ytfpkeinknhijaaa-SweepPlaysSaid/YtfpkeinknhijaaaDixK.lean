/- The program's index and sweeper beside the document's: calls. -/
import Derived.Test.YtfpkeinknhijaaaDixJ
namespace Go.Proofs.Ytfpkeinknhijaaa
set_option linter.unusedVariables false
open Go.RowKit Go.Maps Go.Sort

/-- The document's sweeper is stored. -/
abbrev putS (w : World) (Bw n i rd : Nat) : World := ((w.setCell ⟨Bw, 0, none⟩ (.int .i64 (n : Int))).setCell ⟨Bw, 1, none⟩ (.int .i64 (i : Int))).setCell ⟨Bw, 2, none⟩ (.int .u64 (rd : Int))
section
variable {V w w' : World} {P : Nat → Prop} {x : Nat} {seed R : Int} {nn : Nat} {d d2 : Dx} {s n i rd Bm Bw : Nat} {a : Dp} {n2 i2 rd2 : Nat}
/-- New blocks are kept. -/
theorem Ms.grow (h : Ms V w P x seed R nn d s n i rd Bm Bw d2 a n2 i2 rd2) (hb : Below w.heap.size w w') : Ms V w' (Nw w w' P) x seed R nn d s n i rd Bm Bw d2 a n2 i2 rd2 := by
  have h1 := h.2.below hb
  have hlm := h.2.bm.lt
  have hlw := h.2.bw.lt
  refine ⟨h.1.keep hb (fun g hg => ?_), h1.dx.more (fun g hg => .inl hg), fun g hg => ?_, h1.bm, h1.bw, h1.ne, h1.vm, h1.vw⟩
  · rcases hg with (hg | hg) | hg
    · exact .inl (.inl hg)
    · exact .inr hg
    · exact .inl (.inr hg)
  · rcases hg with hg | hg
    · exact h1.pl g hg
    · exact ⟨hg.2, by omega, by omega⟩
/-- Another index of the document's is stored. -/
theorem Ms.store (h : Ms V w P x seed R nn d s n i rd Bm Bw d2 a n2 i2 rd2) {d' : Dx} {a' : Dp} (hd : Dix w P d' a') : Ms V (putX w Bm 1000 d' a') P x seed R nn d s n i rd Bm Bw d' a' n2 i2 rd2 := by
  have ho := putX_only (w := w) (R := Bm) 1000 d' a'
  refine ⟨⟨h.1.kr.go ho (fun g hg => ⟨.inl (.inr (.inl hg)), by rw [hg]; exact h.2.vm⟩), h.1.sw.only ho (fun he => h.1.ns (.inr (.inl he))), h.1.hv, h.1.ns⟩, ?_⟩
  exact ⟨hd.only ho (fun g hg he => (h.2.pl g hg).2.1 he), fun g hg => ⟨Nat.lt_of_lt_of_le (h.2.pl g hg).1 ho.size, (h.2.pl g hg).2⟩, putX_blk h.2.bm _ _ _, h.2.bw.only ho (fun he => h.2.ne he.symm), h.2.ne, h.2.vm, h.2.vw⟩
/-- A call of the document that turns both. -/
theorem Ms.both (h : Ms V w P x seed R nn d s n i rd Bm Bw d2 a n2 i2 rd2) (hb : Below w.heap.size w w') {d' : Dx} {a' : Dp} (hd : Dix w' (Nw w w' P) d' a') (n' i' rd' : Nat) : Ms V (putX (putS w' Bw n' i' rd') Bm 1000 d' a') (Nw w w' P) x seed R nn d s n i rd Bm Bw d' a' n' i' rd' := by
  have hg := h.grow hb
  refine (hg.sweep n' i' rd').store ?_
  have ho : Only (fun g => g = Bw) w' (putS w' Bw n' i' rd') := (((Only.refl (fun g => g = Bw) w').setCell1 (.inl rfl) 0 _).setCell1 (.inl rfl) 1 _).setCell1 (.inl rfl) 2 _
  exact hd.only ho (fun g hg2 he => (hg.2.pl g hg2).2.2 he)
/-- The law's own boxes. -/
theorem Ms.start {s0 : Nat} (k : Sk V w (fun _ => False) x 1000 seed R nn ⟨[], [], []⟩ s 0 0 0) (h0 : w.heap.size = s0) :
    Ms V ((w.alloc (.cells #[.int .i64 1000, .slice none 0 0, .slice none 0 0, .slice none 0 0] 73)).alloc (.cells #[.int .i64 0, .int .i64 0, .int .u64 0] 75)) (fun _ => False) x seed R nn ⟨[], [], []⟩ s 0 0 0 s0 (s0 + 1) ⟨[], [], []⟩ ⟨none, 0, none, 0, none, 0, []⟩ 0 0 0 := by
  subst h0
  have hb : Below w.heap.size w ((w.alloc (.cells #[.int .i64 1000, .slice none 0 0, .slice none 0 0, .slice none 0 0] 73)).alloc (.cells #[.int .i64 0, .int .i64 0, .int .u64 0] 75)) := ((Below.refl _ _).alloc (Nat.le_refl _) _).alloc (by simp) _
  have hbw := Blk.new (w.alloc (.cells #[.int .i64 1000, .slice none 0 0, .slice none 0 0, .slice none 0 0] 73)) 75 #[.int .i64 0, .int .i64 0, .int .u64 0]
  rw [show (w.alloc (.cells #[.int .i64 1000, .slice none 0 0, .slice none 0 0, .slice none 0 0] 73)).heap.size = w.heap.size + 1 by simp] at hbw
  refine ⟨k.keep hb (fun g hg => ?_), Dix.nil _ _, fun g hg => hg.elim, Blk.alloc (Blk.new w _ _) _, hbw, by omega, k.bel.size, by have := k.bel.size; omega⟩
  rcases hg with hg | hg | hg
  · exact hg.elim
  · exact .inr ⟨by omega, by subst hg; simp; omega⟩
  · exact .inr ⟨by omega, by subst hg; simp⟩
theorem Ms.addx (h : Ms V w P x seed R nn d s n i rd Bm Bw d2 a n2 i2 rd2) (hn : nn ≤ 90000) (hR0 : 0 ≤ R) (hR : R ≤ 2147483000) (id : Nat) (hid : id ≤ 18446744073709551615) (v : Value) (ts : List (List UInt8)) (hv : Reads w v (ts.map encStr)) (ht : ts.length ≤ 1000) {d' : Dx} {ns : List Nat} {er : Int} (hx : d.add 1000 id ts = (d', ns, er)) :
    Calls Try.prog 13 #[.pointer (some ⟨x, 0, none⟩), .int .u64 (id : Int), v] w fun e w' => ∃ v', e = .returned (.tuple #[v', .int .i64 er]) ∧ Ms V w' P x seed (R + 16) (nn + 16) d' s n i rd Bm Bw d2 a n2 i2 rd2 := by
  refine (h.1.add hn hR0 hR id hid v ts hv ht hx).mono ?_
  rintro e w' ⟨v', rfl, -, k, ho⟩
  exact ⟨v', rfl, h.prog (k.less (fun _ h => .inl h)) ho⟩
theorem Ms.dropx (h : Ms V w P x seed R nn d s n i rd Bm Bw d2 a n2 i2 rd2) (hn : nn ≤ 100000) (hR : R ≤ 2147483647) (id : Nat) (hid : id ≤ 18446744073709551615) {d' : Dx} {ns : List Nat} {er : Int} (hx : d.drop id = (d', ns, er)) :
    Calls Try.prog 15 #[.pointer (some ⟨x, 0, none⟩), .int .u64 (id : Int)] w fun e w' => ∃ v', e = .returned (.tuple #[v', .int .i64 er]) ∧ Ms V w' P x seed R nn d' s n i rd Bm Bw d2 a n2 i2 rd2 := by
  refine (h.1.drop hn hR id hid hx).mono ?_
  rintro e w' ⟨v', rfl, -, k, ho⟩
  exact ⟨v', rfl, h.prog (k.less (fun _ h => .inl h)) ho⟩
/-- What a call of the law's that answers leaves. -/
def MsP (V : World) (P : Nat → Prop) (x : Nat) (seed R : Int) (nn : Nat) (d : Dx) (s n i rd Bm Bw : Nat) (d2 : Dx) (a : Dp) (n2 i2 rd2 : Nat) (e : Ending) (w' : World) : Prop :=
  e = .returned (.bool true) ∧ Ms V w' P x seed R nn d s n i rd Bm Bw d2 a n2 i2 rd2
theorem Ms.stepsx (h : Ms V w P x seed R nn d s n i rd Bm Bw d2 a n2 i2 rd2) (m : Nat) (hm : nn + m ≤ 100000) (hp : n < 65536) (hi : i ≤ 100001) (hrd : rd ≤ 1000000) {r : Sst} (hr : swGo m d n i 0 0 = r) :
    Calls Try.prog 39 #[.pointer (some ⟨s, 0, none⟩), .pointer (some ⟨x, 0, none⟩), .int .i64 (m : Int), .int .i64 (r.lk : Int), .int .i64 (r.gn : Int), .int .i64 0] w (MsP V P x seed R (nn + m) r.d s r.n r.i (if r.fin = true then rd + 1 else rd) Bm Bw d2 a n2 i2 rd2) := by
  refine (h.1.steps m hm hp hi hrd hr rfl rfl rfl).mono ?_
  rintro e w' ⟨rfl, k, ho⟩
  exact ⟨rfl, h.prog k ho⟩
theorem Ms.allsx (h : Ms V w P x seed R nn d s n i rd Bm Bw d2 a n2 i2 rd2) (hm : nn ≤ 40000) {b : Int} (hb : b = (wrongX d.all d.sl : Int)) :
    Calls Try.prog 42 #[.pointer (some ⟨x, 0, none⟩), .int .i64 b, .int .i64 0] w (MsP V P x seed R (nn + d.sl.length + 64) (liveSl d) s n i rd Bm Bw d2 a n2 i2 rd2) := by
  refine (h.1.alls hm hb).mono ?_
  rintro e w' ⟨rfl, k, ho⟩
  exact ⟨rfl, h.prog k ho⟩
theorem Ms.atx (h : Ms V w P x seed R nn d s n i rd Bm Bw d2 a n2 i2 rd2) :
    Calls Try.prog 43 #[.pointer (some ⟨s, 0, none⟩), .int .i64 (n : Int), .int .i64 (i : Int), .int .u64 (rd : Int)] w (MsP V P x seed R nn d s n i rd Bm Bw d2 a n2 i2 rd2) := by
  refine (h.1.at_ rfl rfl rfl).mono ?_
  rintro e w' ⟨rfl, k, ho⟩
  exact ⟨rfl, h.prog k ho⟩
theorem Ms.isx (h : Ms V w P x seed R nn d s n i rd Bm Bw d a n2 i2 rd2) (hn : nn ≤ 100000) :
    Calls Try.prog 40 #[.pointer (some ⟨x, 0, none⟩), dixV 1000 d a] w (MsP V P x seed R nn d s n i rd Bm Bw d a n2 i2 rd2) := by
  refine (swis_any h.1.kr hn h.2.dx 1000).mono ?_
  rintro e w' ⟨rfl, hb⟩
  exact ⟨rfl, h.quiet hb⟩
theorem Ms.negx (h : Ms V w P x seed R nn d s n i rd Bm Bw d2 a n2 i2 rd2) (hn : nn ≤ 100000) (m : Int) (hm : m < 0) :
    Calls Try.prog 39 #[.pointer (some ⟨s, 0, none⟩), .pointer (some ⟨x, 0, none⟩), .int .i64 m, .int .i64 0, .int .i64 0, .int .i64 2] w (MsP V P x seed R nn d s n i rd Bm Bw d2 a n2 i2 rd2) := by
  refine (h.1.neg hn m hm).mono ?_
  rintro e w' ⟨rfl, k, ho⟩
  exact ⟨rfl, h.prog k ho⟩
theorem Ms.facts (h : Ms V w P x seed R nn d s n i rd Bm Bw d2 a n2 i2 rd2) : Iw 1000 R d ∧ d.sl.length ≤ nn ∧ d.all.length ≤ nn := ⟨h.1.kr.facts.1, h.1.kr.facts.2.1, h.1.kr.facts.2.2.1⟩
/-- The document's calls. -/
theorem Ms.addm (h : Ms V w P x seed R nn d s n i rd Bm Bw d2 a n2 i2 rd2) {R2 : Int} (hw : Iw 1000 R2 d2) (hR0 : 0 ≤ R2) (hR : R2 ≤ 2147483000) (hl : d2.all.length ≤ 100000) (hls : d2.sl.length ≤ 100000) (id : Nat) (hid : id ≤ 18446744073709551615) (v : Value) (ts : List (List UInt8)) (hv : Reads w v (ts.map encStr)) (ht : ts.length ≤ 1000000) {d' : Dx} {ns : List Nat} {er : Int} (hx : d2.add 1000 id ts = (d', ns, er)) :
    Calls Try.prog 36 #[dixV 1000 d2 a, .int .u64 (id : Int), v] w fun e w' => ∃ a' q c, e = .returned (.tuple #[dixV 1000 d' a', .slice q ns.length c, .int .i64 er]) ∧ Dix w' (Nw w w' P) d' a' ∧ Below w.heap.size w w' := by
  have := xadd_any h.2.dx h.pl hw (by decide) hR0 hR hl hls id hid v ts hv ht
  rw [hx] at this
  refine this.mono ?_
  rintro e w' ⟨a', q, c, rfl, -, hd, hb⟩
  exact ⟨a', q, c, rfl, hd, hb⟩
theorem Ms.dropm (h : Ms V w P x seed R nn d s n i rd Bm Bw d2 a n2 i2 rd2) {R2 : Int} (hw : Iw 1000 R2 d2) (hR : R2 ≤ 2147483647) (hl : d2.all.length ≤ 100000) (id : Nat) {d' : Dx} {ns : List Nat} {er : Int} (hx : d2.drop id = (d', ns, er)) :
    Calls Try.prog 37 #[dixV 1000 d2 a, .int .u64 (id : Int)] w fun e w' => ∃ a' v, e = .returned (.tuple #[dixV 1000 d' a', v, .int .i64 er]) ∧ Dix w' (Nw w w' P) d' a' ∧ Below w.heap.size w w' := by
  have := xdrop_any h.2.dx h.pl hw (by decide) hR (by omega) id
  rw [hx] at this
  refine this.mono ?_
  rintro e w' ⟨a', v, rfl, -, hd, hb⟩
  exact ⟨a', v, rfl, hd, hb⟩
theorem Ms.stepm (h : Ms V w P x seed R nn d s n i rd Bm Bw d2 a n2 i2 rd2) {R2 : Int} (hw : Iw 1000 R2 d2) (hl : d2.all.length ≤ 100000) (hls : d2.sl.length ≤ 100000) (m : Nat) (hmm : m ≤ 100000) (hn : n2 < 65536) (hi : i2 ≤ 100001) (hrd : rd2 ≤ 1000000) {r : Sst} (hr : swGo m d2 n2 i2 0 0 = r) :
    Calls Try.prog 38 #[sdV n2 i2 rd2, dixV 1000 d2 a, .int .i64 (m : Int)] w fun e w' => ∃ a', e = .returned (.tuple #[sdV r.n r.i (if r.fin = true then rd2 + 1 else rd2), dixV 1000 r.d a', .int .i64 (r.lk : Int), .int .i64 (r.gn : Int)]) ∧ Dix w' (Nw w w' P) r.d a' ∧ Below w.heap.size w w' := by
  have := xstep_any h.2.dx h.pl hw (by decide) hl hls m n2 i2 rd2 hmm hn hi hrd
  rw [hr] at this
  exact this
theorem Ms.allm (h : Ms V w P x seed R nn d s n i rd Bm Bw d2 a n2 i2 rd2) (hl : d2.sl.length ≤ 1000000) (hl2 : d2.all.length ≤ 1000000) :
    Calls Try.prog 41 #[dixV 1000 d2 a] w fun e w' => ∃ a', e = .returned (.tuple #[dixV 1000 (liveSl d2) a', .int .i64 (wrongX d2.all d2.sl : Int)]) ∧ Dix w' (Nw w w' P) (liveSl d2) a' ∧ Below w.heap.size w w' := xall_any h.2.dx h.pl 1000 hl hl2
end
end Go.Proofs.Ytfpkeinknhijaaa
