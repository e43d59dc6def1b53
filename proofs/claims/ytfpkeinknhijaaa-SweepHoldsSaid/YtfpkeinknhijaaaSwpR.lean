/- Two indexes of the law's own, of which the first one is swept, layer 19. -/
import Derived.Test.YtfpkeinknhijaaaSwpQ
import Derived.Test.YtfpkeinknhijaaaRevJ
namespace Go.Proofs.Ytfpkeinknhijaaa
set_option linter.unusedVariables false
open Go.RowKit Go.Maps Go.Sort

section
variable {V w w' : World} {S : Nat → Prop} {x y : Nat} {sx sy : Int} {d dy : Dx} {most R : Int} {nn : Nat} {s n i rd : Nat}
theorem K2.onXU (k : K2 V w S x sx d y sy dy most R nn) {U : Nat → Prop} (hU : ∀ g, U g → S g) : ∃ T : Nat → Prop, (∀ g, S g → T g) ∧ Kr V w T x most sx R nn d ∧
    ∀ (w' : World) (R' : Int) (n' : Nat) (d' : Dx), R ≤ R' → nn ≤ n' → Kr V w' T x most sx R' n' d' → Only (fun g => U g ∨ (¬ T g ∧ V.heap.size ≤ g)) w w' → K2 V w' S x sx d' y sy dy most R' n' := by
  obtain ⟨O1, R1, O2, R2, h1, h2, h3, h4, h5, h6⟩ := k
  refine ⟨fun g => S g ∨ (O2 g ∨ R2 g), fun g h => .inl h, ⟨O1, R1, h1, fun g hg => ⟨(h3 g hg).1, fun h => h.elim (h3 g hg).2.1 (h3 g hg).2.2⟩, fun g hg => hg.elim (h5 g) h2.lt, h6⟩, ?_⟩
  intro w' R' n' d' hR hn k' ho
  obtain ⟨O, Rd, j1, j2, j3, j4⟩ := k'
  exact ⟨O, Rd, O2, R2, j1, (h2.only ho (fun g hg h => h.elim (fun h => (h4 g hg).2 (hU g h)) (fun h => h.1 (.inr hg)))).mono hR hn, fun g hg => ⟨(j2 g hg).1, fun hs => (j2 g hg).2 (.inl hs), fun h => (j2 g hg).2 (.inr h)⟩, h4, fun g hs => j3 g (.inl hs), j4⟩
/-- A step on the first one. -/
theorem K2.step (k : K2 V w S x sx d y sy dy most R nn) (hsw : Swp w s n i rd) (hS : S s) (hV : V.heap.size ≤ s) (m : Nat) (hm : nn + m ≤ 100000) (hp : n < 65536) (hi : i ≤ 100001) (hrd : rd ≤ 1000000) {r : Sst} (hr : swGo m d n i 0 0 = r) :
    Calls Try.prog 45 #[.pointer (some ⟨s, 0, none⟩), .pointer (some ⟨x, 0, none⟩), .int .i64 (m : Int)] w fun e w' => e = .returned (.tuple #[.int .i64 (r.lk : Int), .int .i64 (r.gn : Int), .int .i64 0]) ∧ K2 V w' S x sx r.d y sy dy most R (nn + m) ∧ Swp w' s r.n r.i (if r.fin = true then rd + 1 else rd) ∧ Only (fun g => g = s ∨ (¬ S g ∧ V.heap.size ≤ g)) w w' := by
  obtain ⟨T, h1, h2, h3⟩ := k.onXU (U := fun g => g = s) (fun g h => by rw [h]; exact hS)
  rw [← hr]
  refine (swstep_any h2 hsw (h1 s hS) hV m hm hp hi hrd).mono ?_
  rintro e w' ⟨rfl, k1, s1, o1⟩
  exact ⟨rfl, h3 w' _ _ _ (Int.le_refl _) (by omega) k1 o1, s1, o1.more (fun g h => .inl (h.imp (fun h => h) (fun h => ⟨fun hs => h.1 (h1 g hs), h.2⟩)))⟩
/-- All of the second one. -/
theorem K2.ally (k : K2 V w S x sx d y sy dy most R nn) (hm : nn ≤ 40000) :
    Calls Try.prog 50 #[.pointer (some ⟨y, 0, none⟩)] w fun e w' => e = .returned (.tuple #[.int .i64 (wrongX dy.all dy.sl : Int), .int .i64 0]) ∧ K2 V w' S x sx d y sy (liveSl dy) most R (nn + dy.sl.length + 64) ∧ Only (fun g => ¬ S g ∧ V.heap.size ≤ g) w w' := by
  obtain ⟨T, h1, h2, h3⟩ := k.swap.onX
  refine (swall_any h2 hm).mono ?_
  rintro e w' ⟨rfl, k1, o1⟩
  exact ⟨rfl, (h3 w' _ _ _ T S (Int.le_refl _) (by omega) k1 o1 (fun g h => h) (fun g h => ⟨h1 g h, .inl h⟩)).swap, o1.more (fun g h => .inl ⟨fun hs => h.1 (h1 g hs), h.2⟩)⟩
/-- The row of the second one is kept, too. -/
theorem K2.addy (k : K2 V w S x sx d y sy dy most R nn) (hn : nn ≤ 10000) (hR0 : 0 ≤ R) (hR : R ≤ 2147483000) (id : Nat) (hid : id ≤ 18446744073709551615) (v : Value) (ts : List (List UInt8)) (hv : Reads w v (ts.map encStr)) (ht : ts.length ≤ 1000) {d' : Dx} {ns : List Nat} {er : Int} (hx : dy.add most id ts = (d', ns, er)) :
    Calls Try.prog 13 #[.pointer (some ⟨y, 0, none⟩), .int .u64 (id : Int), v] w fun e w' => ∃ v, e = .returned (.tuple #[v, .int .i64 er]) ∧ w'.ownsRow w.heap.size 3 1 v ns.length (numsV ns) ∧ K2 V w' (fun g => S g ∨ bkv v g) x sx d y sy d' most (R + 16) (nn + 16) ∧ Only (fun g => ¬ S g ∧ V.heap.size ≤ g) w w' := by
  refine (k.swap.addx hn hR0 hR id hid v ts hv ht hx).mono ?_
  rintro e w' ⟨v, rfl, hv, k1, o1⟩
  exact ⟨v, rfl, hv, k1.swap, o1⟩
theorem K2.dropy (k : K2 V w S x sx d y sy dy most R nn) (hn : nn ≤ 100000) (hR : R ≤ 2147483647) (id : Nat) (hid : id ≤ 18446744073709551615) {d' : Dx} {ns : List Nat} {er : Int} (hx : dy.drop id = (d', ns, er)) :
    Calls Try.prog 15 #[.pointer (some ⟨y, 0, none⟩), .int .u64 (id : Int)] w fun e w' => ∃ v, e = .returned (.tuple #[v, .int .i64 er]) ∧ w'.ownsRow w.heap.size 3 1 v ns.length (numsV ns) ∧ K2 V w' (fun g => S g ∨ bkv v g) x sx d y sy d' most R nn ∧ Only (fun g => ¬ S g ∧ V.heap.size ≤ g) w w' := by
  refine (k.swap.dropx hn hR id hid hx).mono ?_
  rintro e w' ⟨v, rfl, hv, k1, o1⟩
  exact ⟨v, rfl, hv, k1.swap, o1⟩
theorem K2.sizesx (k : K2 V w S x sx d y sy dy most R nn) : Calls Try.prog 44 #[.pointer (some ⟨x, 0, none⟩)] w fun e w' => e = .returned (.tuple #[.int .i64 (d.sl.length : Int), .int .i64 (wrongX d.all d.sl : Int)]) ∧ Below w.heap.size w w' := by
  obtain ⟨tb, lb, sb, own, Rd, lm, sm, l0, hry⟩ := k.krx.ry
  exact rvsizes_any hry
theorem K2.sizesy (k : K2 V w S x sx d y sy dy most R nn) : Calls Try.prog 44 #[.pointer (some ⟨y, 0, none⟩)] w fun e w' => e = .returned (.tuple #[.int .i64 (dy.sl.length : Int), .int .i64 (wrongX dy.all dy.sl : Int)]) ∧ Below w.heap.size w w' := k.swap.sizesx
end
end Go.Proofs.Ytfpkeinknhijaaa
