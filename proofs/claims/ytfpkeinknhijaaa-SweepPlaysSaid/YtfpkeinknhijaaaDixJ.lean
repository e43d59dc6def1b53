/- The program's index and sweeper, and the document's in two boxes of the law. -/
import Derived.Test.YtfpkeinknhijaaaDixG
import Derived.Test.YtfpkeinknhijaaaDixS
import Derived.Test.YtfpkeinknhijaaaSwpU
namespace Go.Proofs.Ytfpkeinknhijaaa
set_option linter.unusedVariables false
open Go.RowKit Go.Maps Go.Sort

/-- Add, whether it is taken or not. -/
theorem xadd_any {w : World} {P : Nat → Prop} {d : Dx} {a : Dp} (h : Dix w P d a) (hP : ∀ g, P g → g < w.heap.size) {most R : Int} (hw : Iw most R d) (hm : most ≤ 65536) (hR0 : 0 ≤ R) (hR : R ≤ 2147483000) (hl : d.all.length ≤ 100000) (hls : d.sl.length ≤ 100000) (id : Nat) (hid : id ≤ 18446744073709551615) (v : Value) (ts : List (List UInt8)) (hv : Reads w v (ts.map encStr)) (ht : ts.length ≤ 1000000) :
    Calls Try.prog 36 #[dixV most d a, .int .u64 (id : Int), v] w (AddR w P most (d.add most id ts)) := by
  by_cases hbad : id ≤ lastE d.all ∨ tagsB ts = false
  · have he : d.add most id ts = (d, [], 2) := by unfold Dx.add; rw [if_pos hbad]
    rw [he]
    exact xadd_bad h hP most (by omega) id hid v ts hv ht hbad
  · rw [not_or] at hbad
    exact xadd_good h hP hw hm hR0 hR hl hls id hid v ts hv (by omega) (by simpa using hbad.2)
/-- The document's index and sweeper in boxes Bm and Bw, beside blocks that turn. -/
structure Md (V w : World) (P : Nat → Prop) (Bm Bw : Nat) (most : Int) (d : Dx) (a : Dp) (n i rd : Nat) : Prop where
  dx : Dix w P d a
  pl : ∀ g, P g → g < w.heap.size ∧ g ≠ Bm ∧ g ≠ Bw
  bm : Blk w Bm 73 (dixCs most d a)
  bw : Blk w Bw 75 (sdCs n i rd)
  ne : Bm ≠ Bw
  vm : V.heap.size ≤ Bm
  vw : V.heap.size ≤ Bw
/-- What is kept. -/
abbrev Mk (P : Nat → Prop) (Bm Bw g : Nat) : Prop := P g ∨ g = Bm ∨ g = Bw
section
variable {V w w' : World} {P : Nat → Prop} {Bm Bw : Nat} {most : Int} {d : Dx} {a : Dp} {n i rd : Nat}
theorem Md.only (h : Md V w P Bm Bw most d a n i rd) {U : Nat → Prop} (ho : Only U w w') (hU : ∀ g, U g → ¬ Mk P Bm Bw g) : Md V w' P Bm Bw most d a n i rd :=
  ⟨h.dx.only ho (fun g hg he => hU g he (.inl hg)), fun g hg => ⟨Nat.lt_of_lt_of_le (h.pl g hg).1 ho.size, (h.pl g hg).2⟩, h.bm.only ho (fun he => hU _ he (.inr (.inl rfl))), h.bw.only ho (fun he => hU _ he (.inr (.inr rfl))), h.ne, h.vm, h.vw⟩
theorem Md.below (h : Md V w P Bm Bw most d a n i rd) (hb : Below w.heap.size w w') : Md V w' P Bm Bw most d a n i rd := h.only (Only.of_below hb (fun _ => False)) (fun g h => h.elim)
theorem Md.cells (h : Md V w P Bm Bw most d a n i rd) :
    (w.cell? ⟨Bw, 0, none⟩ = some (.int .i64 (n : Int)) ∧ w.cell? ⟨Bw, 1, none⟩ = some (.int .i64 (i : Int)) ∧ w.cell? ⟨Bw, 2, none⟩ = some (.int .u64 (rd : Int))) ∧
    w.cell? ⟨Bm, 0, none⟩ = some (.int .i64 most) ∧ w.cell? ⟨Bm, 1, none⟩ = some (.slice a.p d.nm.length a.c) ∧ w.cell? ⟨Bm, 2, none⟩ = some (.slice a.pA d.all.length a.cA) ∧ w.cell? ⟨Bm, 3, none⟩ = some (.slice a.pS d.sl.length a.cS) := by
  have s0 := Blk.cell h.bw 0
  have s1 := Blk.cell h.bw 1
  have s2 := Blk.cell h.bw 2
  have d0 := Blk.cell h.bm 0
  have d1 := Blk.cell h.bm 1
  have d2 := Blk.cell h.bm 2
  have d3 := Blk.cell h.bm 3
  simp only [List.getElem?_toArray, List.getElem?_cons_zero, List.getElem?_cons_succ] at s0 s1 s2 d0 d1 d2 d3
  exact ⟨⟨s0, s1, s2⟩, d0, d1, d2, d3⟩
theorem Md.frozens (h : Md V w P Bm Bw most d a n i rd) :
    (w.frozen? ⟨Bw, 0, none⟩ = false ∧ w.frozen? ⟨Bw, 1, none⟩ = false ∧ w.frozen? ⟨Bw, 2, none⟩ = false) ∧
    w.frozen? ⟨Bm, 0, none⟩ = false ∧ w.frozen? ⟨Bm, 1, none⟩ = false ∧ w.frozen? ⟨Bm, 2, none⟩ = false ∧ w.frozen? ⟨Bm, 3, none⟩ = false :=
  ⟨⟨Blk.frozen h.bw 0, Blk.frozen h.bw 1, Blk.frozen h.bw 2⟩, Blk.frozen h.bm 0, Blk.frozen h.bm 1, Blk.frozen h.bm 2, Blk.frozen h.bm 3⟩
/-- A call of the document, and its index is stored. -/
theorem Md.put (h : Md V w P Bm Bw most d a n i rd) (hb : Below w.heap.size w w') {d' : Dx} {a' : Dp} (hd : Dix w' (Nw w w' P) d' a') : Md V (putX w' Bm most d' a') (Nw w w' P) Bm Bw most d' a' n i rd := by
  have h1 := h.below hb
  have ho := putX_only (w := w') (R := Bm) most d' a'
  have hlm := h.bm.lt
  have hlw := h.bw.lt
  have hne : ∀ g, Nw w w' P g → g < w'.heap.size ∧ g ≠ Bm ∧ g ≠ Bw := fun g hg => by
    rcases hg with hg | hg
    · exact h1.pl g hg
    · exact ⟨hg.2, by omega, by omega⟩
  exact ⟨hd.only ho (fun g hg he => (hne g hg).2.1 he), fun g hg => ⟨Nat.lt_of_lt_of_le (hne g hg).1 ho.size, (hne g hg).2⟩, putX_blk h1.bm _ _ _, h1.bw.only ho (fun he => h.ne he.symm), h.ne, h.vm, h.vw⟩
/-- The sweeper is stored. -/
theorem Md.sweep (h : Md V w P Bm Bw most d a n i rd) (n' i' rd' : Nat) : Md V (((w.setCell ⟨Bw, 0, none⟩ (.int .i64 (n' : Int))).setCell ⟨Bw, 1, none⟩ (.int .i64 (i' : Int))).setCell ⟨Bw, 2, none⟩ (.int .u64 (rd' : Int))) P Bm Bw most d a n' i' rd' := by
  have ho : Only (fun g => g = Bw) w (((w.setCell ⟨Bw, 0, none⟩ (.int .i64 (n' : Int))).setCell ⟨Bw, 1, none⟩ (.int .i64 (i' : Int))).setCell ⟨Bw, 2, none⟩ (.int .u64 (rd' : Int))) := (((Only.refl (fun g => g = Bw) w).setCell1 (.inl rfl) 0 _).setCell1 (.inl rfl) 1 _).setCell1 (.inl rfl) 2 _
  exact ⟨h.dx.only ho (fun g hg he => (h.pl g hg).2.2 he), fun g hg => ⟨Nat.lt_of_lt_of_le (h.pl g hg).1 ho.size, (h.pl g hg).2⟩, h.bm.only ho (fun he => h.ne he), (by simpa using Blk.set_ (Blk.set_ (Blk.set_ h.bw 0 (.int .i64 (n' : Int))) 1 (.int .i64 (i' : Int))) 2 (.int .u64 (rd' : Int))), h.ne, h.vm, h.vw⟩
end
/-- Both together: the program's index and sweeper keep the document's blocks. -/
def Ms (V w : World) (P : Nat → Prop) (x : Nat) (seed R : Int) (nn : Nat) (d : Dx) (s n i rd Bm Bw : Nat) (d2 : Dx) (a : Dp) (n2 i2 rd2 : Nat) : Prop :=
  Sk V w (Mk P Bm Bw) x 1000 seed R nn d s n i rd ∧ Md V w P Bm Bw 1000 d2 a n2 i2 rd2
section
variable {V w w' : World} {P : Nat → Prop} {x : Nat} {seed R : Int} {nn : Nat} {d d2 : Dx} {s n i rd Bm Bw : Nat} {a : Dp} {n2 i2 rd2 : Nat}
theorem Ms.quiet (h : Ms V w P x seed R nn d s n i rd Bm Bw d2 a n2 i2 rd2) (hb : Below w.heap.size w w') : Ms V w' P x seed R nn d s n i rd Bm Bw d2 a n2 i2 rd2 := ⟨h.1.quiet hb, h.2.below hb⟩
theorem Ms.mono (h : Ms V w P x seed R nn d s n i rd Bm Bw d2 a n2 i2 rd2) {R' : Int} {n' : Nat} (hR : R ≤ R') (hn : nn ≤ n') : Ms V w P x seed R' n' d s n i rd Bm Bw d2 a n2 i2 rd2 := ⟨h.1.mono hR hn, h.2⟩
/-- A call of the program. -/
theorem Ms.prog (h : Ms V w P x seed R nn d s n i rd Bm Bw d2 a n2 i2 rd2) {R' : Int} {nn' n' i' rd' : Nat} {d' : Dx} (k : Sk V w' (Mk P Bm Bw) x 1000 seed R' nn' d' s n' i' rd') (ho : Only (fun g => ¬ Mk P Bm Bw g ∧ V.heap.size ≤ g) w w') : Ms V w' P x seed R' nn' d' s n' i' rd' Bm Bw d2 a n2 i2 rd2 :=
  ⟨k, h.2.only ho (fun g hg => hg.1)⟩
/-- A call of the document, whose index is stored. -/
theorem Ms.put (h : Ms V w P x seed R nn d s n i rd Bm Bw d2 a n2 i2 rd2) (hb : Below w.heap.size w w') {d' : Dx} {a' : Dp} (hd : Dix w' (Nw w w' P) d' a') : Ms V (putX w' Bm 1000 d' a') (Nw w w' P) x seed R nn d s n i rd Bm Bw d' a' n2 i2 rd2 := by
  refine ⟨?_, h.2.put hb hd⟩
  have k := h.1.keep hb (S' := Mk (Nw w w' P) Bm Bw) (fun g hg => by
    rcases hg with (hg | hg) | hg
    · exact .inl (.inl hg)
    · exact .inr hg
    · exact .inl (.inr hg))
  have ho := putX_only (w := w') (R := Bm) 1000 d' a'
  refine ⟨k.kr.go ho (fun g hg => ⟨.inl (.inr (.inl hg)), by rw [hg]; exact h.2.vm⟩), k.sw.only ho (fun he => k.ns (.inr (.inl he))), k.hv, k.ns⟩
theorem Ms.sweep (h : Ms V w P x seed R nn d s n i rd Bm Bw d2 a n2 i2 rd2) (n' i' rd' : Nat) : Ms V (((w.setCell ⟨Bw, 0, none⟩ (.int .i64 (n' : Int))).setCell ⟨Bw, 1, none⟩ (.int .i64 (i' : Int))).setCell ⟨Bw, 2, none⟩ (.int .u64 (rd' : Int))) P x seed R nn d s n i rd Bm Bw d2 a n' i' rd' := by
  refine ⟨?_, h.2.sweep n' i' rd'⟩
  have ho : Only (fun g => g = Bw) w (((w.setCell ⟨Bw, 0, none⟩ (.int .i64 (n' : Int))).setCell ⟨Bw, 1, none⟩ (.int .i64 (i' : Int))).setCell ⟨Bw, 2, none⟩ (.int .u64 (rd' : Int))) := (((Only.refl (fun g => g = Bw) w).setCell1 (.inl rfl) 0 _).setCell1 (.inl rfl) 1 _).setCell1 (.inl rfl) 2 _
  exact ⟨h.1.kr.go ho (fun g hg => ⟨.inl (.inr (.inr hg)), by rw [hg]; exact h.2.vw⟩), h.1.sw.only ho (fun he => h.1.ns (.inr (.inr he))), h.1.hv, h.1.ns⟩
theorem Ms.pl (h : Ms V w P x seed R nn d s n i rd Bm Bw d2 a n2 i2 rd2) : ∀ g, P g → g < w.heap.size := fun g hg => (h.2.pl g hg).1
end
end Go.Proofs.Ytfpkeinknhijaaa
