/- Calls on one of two indexes. -/
import Derived.Test.YthngkimncdpekaaRevI
namespace Go.Proofs.Ythngkimncdpekaa
set_option linter.unusedVariables false
open Go.RowKit Go.Maps Go.Sort

section
variable {V w w' : World} {S : Nat → Prop} {x y : Nat} {most sx sy R : Int} {n : Nat} {d dy : Dx}
/-- What a law's helper leaves at one of two indexes. -/
def K2P (V w : World) (S : Nat → Prop) (x : Nat) (sx : Int) (d : Dx) (y : Nat) (sy : Int) (dy : Dx) (most R : Int) (n : Nat) (e : Ending) (w' : World) : Prop := e = .returned (.bool true) ∧ K2 V w' S x sx d y sy dy most R n ∧ Only (fun g => ¬ S g ∧ V.heap.size ≤ g) w w'
/-- A helper's call on the first index. -/
theorem K2.liftx (k : K2 V w S x sx d y sy dy most R n) {f : FuncId} {args : Array Value} {R' : Int} {n' : Nat} {d' : Dx} (hR : R ≤ R') (hn : n ≤ n') (h : ∀ T : Nat → Prop, (∀ g, S g → T g) → Kr V w T x most sx R n d → Calls Try.prog f args w (KrP V w T x most sx R' n' d')) : Calls Try.prog f args w (K2P V w S x sx d' y sy dy most R' n') := by
  obtain ⟨T, h1, h2, h3⟩ := k.onX
  refine (h T h1 h2).mono ?_
  rintro e w' ⟨rfl, k1, o1⟩
  exact ⟨rfl, h3 w' R' n' d' T S hR hn k1 o1 (fun g h => h) (fun g h => ⟨h1 g h, .inl h⟩), o1.more (fun g h => .inl ⟨fun hs => h.1 (h1 g hs), h.2⟩)⟩
/-- The same on the second one. -/
theorem K2.lifty (k : K2 V w S x sx d y sy dy most R n) {f : FuncId} {args : Array Value} {R' : Int} {n' : Nat} {d' : Dx} (hR : R ≤ R') (hn : n ≤ n') (h : ∀ T : Nat → Prop, (∀ g, S g → T g) → Kr V w T y most sy R n dy → Calls Try.prog f args w (KrP V w T y most sy R' n' d')) : Calls Try.prog f args w (K2P V w S x sx d y sy d' most R' n') := by
  refine (k.swap.liftx hR hn h).mono ?_
  rintro e w' ⟨rfl, k1, o1⟩
  exact ⟨rfl, k1.swap, o1⟩
/-- A call on the first index, whose row is kept. -/
def K2v (V w : World) (S : Nat → Prop) (x : Nat) (sx : Int) (d : Dx) (y : Nat) (sy : Int) (dy : Dx) (most R : Int) (n : Nat) (ns : List Nat) (er : Int) (e : Ending) (w' : World) : Prop :=
  ∃ v, e = .returned (.tuple #[v, .int .i64 er]) ∧ w'.ownsRow w.heap.size 3 1 v ns.length (numsV ns) ∧ K2 V w' (fun g => S g ∨ bkv v g) x sx d y sy dy most R n ∧ Only (fun g => ¬ S g ∧ V.heap.size ≤ g) w w'
theorem K2.liftv (k : K2 V w S x sx d y sy dy most R n) {f : FuncId} {args : Array Value} {R' : Int} {n' : Nat} {d' : Dx} {ns : List Nat} {er : Int} (hR : R ≤ R') (hn : n ≤ n') (h : ∀ T : Nat → Prop, (∀ g, S g → T g) → Kr V w T x most sx R n d → Calls Try.prog f args w (KvP V w T x most sx R' n' d' ns er)) : Calls Try.prog f args w (K2v V w S x sx d' y sy dy most R' n' ns er) := by
  obtain ⟨T, h1, h2, h3⟩ := k.onX
  refine (h T h1 h2).mono ?_
  rintro e w' ⟨v, rfl, hv, k1, o1⟩
  exact ⟨v, rfl, hv, h3 w' R' n' d' (fun g => T g ∨ bkv v g) (fun g => S g ∨ bkv v g) hR hn k1 o1 (fun g h => .inl h) (fun g h => h.elim (fun h => ⟨.inl (h1 g h), .inl h⟩) (fun h => ⟨.inr h, .inr (hv.lt g h).1⟩)), o1.more (fun g h => .inl ⟨fun hs => h.1 (h1 g hs), h.2⟩)⟩
theorem K2.addx (k : K2 V w S x sx d y sy dy most R n) (hn : n ≤ 10000) (hR0 : 0 ≤ R) (hR : R ≤ 2147483000) (id : Nat) (hid : id ≤ 18446744073709551615) (v : Value) (ts : List (List UInt8)) (hv : Reads w v (ts.map encStr)) (ht : ts.length ≤ 1000) {d' : Dx} {ns : List Nat} {er : Int} (hx : d.add most id ts = (d', ns, er)) :
    Calls Try.prog 14 #[.pointer (some ⟨x, 0, none⟩), .int .u64 (id : Int), v] w (K2v V w S x sx d' y sy dy most (R + 16) (n + 16) ns er) :=
  k.liftv (by omega) (by omega) (fun T h k1 => k1.addv hn hR0 hR id hid v ts hv ht hx)
theorem K2.addsy (k : K2 V w S x sx d y sy dy most R n) (hn : n ≤ 10000) (hR0 : 0 ≤ R) (hR : R ≤ 2147483000) (id : Nat) (hid : id ≤ 18446744073709551615) (v : Value) (ts : List (List UInt8)) (hv : Reads w v (ts.map encStr)) (ht : ts.length ≤ 1000) {d' : Dx} {ns : List Nat} {er : Int} (hx : dy.add most id ts = (d', ns, er)) (hns : ns.length ≤ 1000)
    (wv : Value) (hw : Reads w wv (numsV ns)) (hwv : ∀ g, wv.ownBlock = some g → S g ∨ g < V.heap.size) :
    Calls Try.prog 32 #[.pointer (some ⟨y, 0, none⟩), .int .u64 (id : Int), v, wv, .int .i64 er] w (K2P V w S x sx d y sy d' most (R + 16) (n + 16)) :=
  k.lifty (by omega) (by omega) (fun T h k1 => k1.adds hn hR0 hR id hid v ts hv ht hx hns wv hw (fun g hg => (hwv g hg).imp (h g) (fun h => h)))
theorem K2.dropx (k : K2 V w S x sx d y sy dy most R n) (hn : n ≤ 100000) (hR : R ≤ 2147483647) (id : Nat) (hid : id ≤ 18446744073709551615) {d' : Dx} {ns : List Nat} {er : Int} (hx : d.drop id = (d', ns, er)) :
    Calls Try.prog 16 #[.pointer (some ⟨x, 0, none⟩), .int .u64 (id : Int)] w (K2v V w S x sx d' y sy dy most R n ns er) :=
  k.liftv (Int.le_refl _) (Nat.le_refl _) (fun T h k1 => k1.dropv hn hR id hid hx)
theorem K2.dropsy (k : K2 V w S x sx d y sy dy most R n) (hn : n ≤ 100000) (hR : R ≤ 2147483647) (id : Nat) (hid : id ≤ 18446744073709551615) {d' : Dx} {ns : List Nat} {er : Int} (hx : dy.drop id = (d', ns, er)) (hns : ns.length ≤ 1000)
    (wv : Value) (hw : Reads w wv (numsV ns)) (hwv : ∀ g, wv.ownBlock = some g → S g ∨ g < V.heap.size) :
    Calls Try.prog 33 #[.pointer (some ⟨y, 0, none⟩), .int .u64 (id : Int), wv, .int .i64 er] w (K2P V w S x sx d y sy d' most R n) :=
  k.lifty (Int.le_refl _) (Nat.le_refl _) (fun T h k1 => k1.drops hn hR id hid hx hns wv hw (fun g hg => (hwv g hg).imp (h g) (fun h => h)))
theorem K2.cutx (k : K2 V w S x sx d y sy dy most R n) (hn : n ≤ 100000) (t i : Int) :
    Calls Try.prog 34 #[.pointer (some ⟨x, 0, none⟩), .int .i64 t, .int .i64 i] w fun e w' => ∃ v, e = .returned v ∧ K2 V w' S x sx (d.cut t i).1 y sy dy most R (n + 1) ∧ Only (fun g => ¬ S g ∧ V.heap.size ≤ g) w w' := by
  obtain ⟨T, h1, h2, h3⟩ := k.onX
  refine (h2.cutv hn t i (d' := (d.cut t i).1) (b := (d.cut t i).2.1) (er := (d.cut t i).2.2) rfl).mono ?_
  rintro e w' ⟨rfl, k1, o1⟩
  exact ⟨_, rfl, h3 w' R (n + 1) _ T S (Int.le_refl _) (Nat.le_succ _) k1 o1 (fun g h => h) (fun g h => ⟨h1 g h, .inl h⟩), o1.more (fun g h => .inl ⟨fun hs => h.1 (h1 g hs), h.2⟩)⟩
theorem K2.hasy (k : K2 V w S x sx d y sy dy most R n) (id : Nat) (hid : id ≤ 18446744073709551615) (tv nv : Value) (ht : Reads w tv ((tagsE dy.all id).map encStr)) (hn : Reads w nv (numsV (numsE dy.all id))) {er : Int} (her : er = errE dy.all id) :
    Calls Try.prog 37 #[.pointer (some ⟨y, 0, none⟩), .int .u64 (id : Int), tv, nv, .int .i64 er] w (K2P V w S x sx d y sy dy most R n) :=
  k.lifty (Int.le_refl _) (Nat.le_refl _) (fun T h k1 => k1.has id hid tv nv ht hn (k1.facts.1.lens id) her)
theorem K2.holdsx (k : K2 V w S x sx d y sy dy most R n) (hn : n ≤ 10000) :
    Calls Try.prog 41 #[.pointer (some ⟨x, 0, none⟩)] w (K2P V w S x sx d y sy dy most R n) :=
  k.liftx (Int.le_refl _) (Nat.le_refl _) (fun T h k1 => holds_any k1 hn (k1.facts.1.liveN k1.facts.2.2.2.2.1))
theorem K2.holdsy (k : K2 V w S x sx d y sy dy most R n) (hn : n ≤ 10000) :
    Calls Try.prog 41 #[.pointer (some ⟨y, 0, none⟩)] w (K2P V w S x sx d y sy dy most R n) :=
  k.lifty (Int.le_refl _) (Nat.le_refl _) (fun T h k1 => holds_any k1 hn (k1.facts.1.liveN k1.facts.2.2.2.2.1))
/-- Kept blocks turn, and others are kept from now on. -/
theorem K2.go (k : K2 V w S x sx d y sy dy most R n) {U S' : Nat → Prop} (ho : Only U w w') (hU : ∀ g, U g → S g ∧ V.heap.size ≤ g) (hS : ∀ g, S' g → S g ∨ (w.heap.size ≤ g ∧ g < w'.heap.size)) : K2 V w' S' x sx d y sy dy most R n := by
  obtain ⟨O1, R1, O2, R2, h1, h2, h3, h4, h5, h6⟩ := k
  refine ⟨O1, R1, O2, R2, h1.only ho (fun g hg h => (h3 g hg).2.1 (hU g h).1), h2.only ho (fun g hg h => (h4 g hg).2 (hU g h).1), fun g hg => ⟨(h3 g hg).1, fun hs => ?_, (h3 g hg).2.2⟩, fun g hg => ⟨(h4 g hg).1, fun hs => ?_⟩, fun g hs => ?_, h6.trans (ho.below (fun g h => (hU g h).2) h6.size)⟩
  · rcases hS g hs with h | h
    · exact (h3 g hg).2.1 h
    · have := h1.lt hg; omega
  · rcases hS g hs with h | h
    · exact (h4 g hg).2 h
    · have := h2.lt hg; omega
  · rcases hS g hs with h | h
    · have := h5 g h; have := ho.size; omega
    · exact h.2
theorem only_grown {v : Value} (h : w.grownBy w' v.ownBlock) : Only (bkv v) w w' := ⟨h.os, h.tape, h.output, h.size, fun i hi hn => h.block i hi (fun e => hn e.symm)⟩
/-- A row of the law's own that is kept grows by one. -/
theorem K2.push (k : K2 V w S x sx d y sy dy most R n) {o : Obj} {v v' : Value} {t : TypeId} {B m s : Nat} {xs : List Value} (hS : ∀ g, bkv v g → S g) (hV : ∀ g, bkv v g → V.heap.size ≤ g) (hg : (w.alloc o).grownBy w' v.ownBlock) (hown : w'.ownsRow B t s v' m xs) (hv : v'.ownBlock = v.ownBlock ∨ v'.ownBlock = some (w.heap.size + 1)) : K2 V w' (bkv v') x sx d y sy dy most R n := by
  have hal : Below w.heap.size w (w.alloc o) := (Below.refl _ _).alloc (Nat.le_refl _) o
  refine (k.quiet hal).go (only_grown hg) (fun g h => ⟨hS g h, hV g h⟩) (fun g h => ?_)
  rcases hv with e | e
  · exact .inl (hS g (by unfold bkv at h ⊢; rw [← e]; exact h))
  · refine .inr ⟨?_, (hown.lt g h).2⟩
    unfold bkv at h
    rw [e] at h
    injection h with h
    have : (w.alloc o).heap.size = w.heap.size + 1 := by simp
    omega
end
end Go.Proofs.Ythngkimncdpekaa
