/- Calls on one of two indexes. -/
import Derived.Test.YtfpkeinknhijaaaRevO
/- Two indexes of the law's own; calls whose results are kept. -/
namespace Go.Proofs.Ytfpkeinknhijaaa
set_option linter.unusedVariables false
open Go.RowKit Go.Maps Go.Sort

def bkv (v : Value) (g : Nat) : Prop := v.ownBlock = some g
section
variable {V w w' : World} {S : Nat → Prop} {x y : Nat} {most seed sy R : Int} {n : Nat} {d dy : Dx}
/-- A call on the index that hands back a row of its own: the row is kept. -/
theorem Kr.turnv {O Rd O' Rd' U : Nat → Prop} {R' : Int} {n' : Nat} {d' : Dx} (h1 : Ri w x most seed R n O Rd d) (h2 : ∀ g, O g ∨ Rd g → V.heap.size ≤ g ∧ ¬ S g) (h3 : ∀ g, S g → g < w.heap.size) (h4 : Below V.heap.size V w)
    (hr : Ri w' x most seed R' n' O' Rd' d') (hg : Goes w O w' O') (hd : ∀ g, Rd' g → Rd g ∨ w.heap.size ≤ g) (hU : ∀ g, U g → g < w'.heap.size ∧ ¬ (O' g ∨ Rd' g)) : Kr V w' (fun g => S g ∨ U g) x most seed R' n' d' ∧ Only (fun g => ¬ S g ∧ V.heap.size ≤ g) w w' := by
  refine ⟨⟨O', Rd', hr, fun g hg' => ?_, fun g hs => ?_, h4.trans (hg.only.below (fun g h => (h2 g (.inl h)).1) h4.size)⟩, hg.only.more (fun g h => .inl ⟨(h2 g (.inl h)).2, (h2 g (.inl h)).1⟩)⟩
  · have hnew : O g ∨ Rd g ∨ w.heap.size ≤ g := by
      rcases hg' with h | h
      · exact (hg.new g h).imp (fun h => h) .inr
      · exact .inr (hd g h)
    have hu : ¬ U g := fun hu => (hU g hu).2 hg'
    rcases hnew with h | h | h
    · exact ⟨(h2 g (.inl h)).1, fun hs => hs.elim (h2 g (.inl h)).2 hu⟩
    · exact ⟨(h2 g (.inr h)).1, fun hs => hs.elim (h2 g (.inr h)).2 hu⟩
    · exact ⟨by have := h4.size; omega, fun hs => hs.elim (fun hs => by have := h3 g hs; omega) hu⟩
  · rcases hs with hs | hs
    · exact Nat.lt_of_lt_of_le (h3 g hs) hg.only.size
    · exact (hU g hs).1
theorem Kr.ry (k : Kr V w S x most seed R n d) : ∃ tb lb sb own Rd lm sm l0, Ry w x tb lb sb most seed R n own Rd lm sm l0 d := by
  obtain ⟨O, Rd, ⟨tb, lb, sb, own, lm, sm, l0, h1, _⟩, _⟩ := k
  exact ⟨tb, lb, sb, own, Rd, lm, sm, l0, h1⟩
theorem Kr.less_ (k : Kr V w S x most seed R n d) {S' : Nat → Prop} (h : ∀ g, S' g → S g) : Kr V w S' x most seed R n d := k.keep (Below.refl _ _) (fun g hg => .inl (h g hg))
def KvP (V w : World) (S : Nat → Prop) (x : Nat) (most seed R : Int) (n : Nat) (d : Dx) (ns : List Nat) (er : Int) (e : Ending) (w' : World) : Prop :=
  ∃ v, e = .returned (.tuple #[v, .int .i64 er]) ∧ w'.ownsRow w.heap.size 3 1 v ns.length (numsV ns) ∧ Kr V w' (fun g => S g ∨ bkv v g) x most seed R n d ∧ Only (fun g => ¬ S g ∧ V.heap.size ≤ g) w w'
theorem Kr.addv (k : Kr V w S x most seed R n d) (hn : n ≤ 90000) (hR0 : 0 ≤ R) (hR : R ≤ 2147483000) (id : Nat) (hid : id ≤ 18446744073709551615) (v : Value) (ts : List (List UInt8)) (hv : Reads w v (ts.map encStr)) (ht : ts.length ≤ 1000) {d' : Dx} {ns : List Nat} {er : Int} (hx : d.add most id ts = (d', ns, er)) :
    Calls Try.prog 13 #[.pointer (some ⟨x, 0, none⟩), .int .u64 (id : Int), v] w (KvP V w S x most seed (R + 16) (n + 16) d' ns er) := by
  obtain ⟨O, Rd, h1, h2, h3, h4⟩ := k
  have H := rvadd_any h1 hn hR0 hR id hid v ts hv ht
  rw [hx] at H
  refine H.mono ?_
  rintro e w' ⟨v1, O', Rd', rfl, hv1, hr, hg, hd, hb⟩
  obtain ⟨k1, o1⟩ := Kr.turnv (U := bkv v1) h1 h2 h3 h4 hr hg hd (fun g hg => ⟨ownsRow_lt hv1 hg, hb g hg⟩)
  exact ⟨v1, rfl, hv1, k1, o1⟩
theorem Kr.dropv (k : Kr V w S x most seed R n d) (hn : n ≤ 100000) (hR : R ≤ 2147483647) (id : Nat) (hid : id ≤ 18446744073709551615) {d' : Dx} {ns : List Nat} {er : Int} (hx : d.drop id = (d', ns, er)) :
    Calls Try.prog 15 #[.pointer (some ⟨x, 0, none⟩), .int .u64 (id : Int)] w (KvP V w S x most seed R n d' ns er) := by
  obtain ⟨O, Rd, h1, h2, h3, h4⟩ := k
  have H := rvdrop_any h1 hn hR id hid
  rw [hx] at H
  refine H.mono ?_
  rintro e w' ⟨v1, O', rfl, hv1, hr, hg, hb⟩
  obtain ⟨k1, o1⟩ := Kr.turnv (U := bkv v1) h1 h2 h3 h4 hr hg (fun _ h => .inl h) (fun g hg => ⟨ownsRow_lt hv1 hg, hb g hg⟩)
  exact ⟨v1, rfl, hv1, k1, o1⟩
theorem Kr.cutv (k : Kr V w S x most seed R n d) (hn : n ≤ 100000) (t i : Int) {d' : Dx} {b : Bool} {er : Int} (hx : d.cut t i = (d', b, er)) :
    Calls Try.prog 17 #[.pointer (some ⟨x, 0, none⟩), .int .i64 t, .int .i64 i] w fun e w' => e = .returned (.tuple #[.bool b, .int .i64 er]) ∧ Kr V w' S x most seed R (n + 1) d' ∧ Only (fun g => ¬ S g ∧ V.heap.size ≤ g) w w' := by
  obtain ⟨O, Rd, h1, h2, h3, h4⟩ := k
  have H := rvcut_any h1 hn t i
  rw [hx] at H
  refine H.mono ?_
  rintro e w' ⟨rfl, hr, ho⟩
  obtain ⟨k1, o1⟩ := Kr.turn (S := S) h1 h2 h3 h4 hr ⟨ho, fun _ h => .inl h⟩ (fun _ h => .inl h)
  exact ⟨rfl, k1, o1⟩
/-- Two indexes of the law's own, apart, and what else is kept. -/
def K2 (V w : World) (S : Nat → Prop) (x : Nat) (sx : Int) (d : Dx) (y : Nat) (sy : Int) (dy : Dx) (most R : Int) (n : Nat) : Prop :=
  ∃ O1 R1 O2 R2, Ri w x most sx R n O1 R1 d ∧ Ri w y most sy R n O2 R2 dy ∧ (∀ g, O1 g ∨ R1 g → V.heap.size ≤ g ∧ ¬ S g ∧ ¬ (O2 g ∨ R2 g)) ∧ (∀ g, O2 g ∨ R2 g → V.heap.size ≤ g ∧ ¬ S g) ∧ (∀ g, S g → g < w.heap.size) ∧ Below V.heap.size V w
theorem K2.swap (k : K2 V w S x seed d y sy dy most R n) : K2 V w S y sy dy x seed d most R n := by
  obtain ⟨O1, R1, O2, R2, h1, h2, h3, h4, h5, h6⟩ := k
  exact ⟨O2, R2, O1, R1, h2, h1, fun g hg => ⟨(h4 g hg).1, (h4 g hg).2, fun h => (h3 g h).2.2 hg⟩, fun g hg => ⟨(h3 g hg).1, (h3 g hg).2.1⟩, h5, h6⟩
theorem K2.onX (k : K2 V w S x seed d y sy dy most R n) : ∃ T : Nat → Prop, (∀ g, S g → T g) ∧ Kr V w T x most seed R n d ∧
    ∀ (w' : World) (R' : Int) (n' : Nat) (d' : Dx) (T' S' : Nat → Prop), R ≤ R' → n ≤ n' → Kr V w' T' x most seed R' n' d' → Only (fun g => ¬ T g ∧ V.heap.size ≤ g) w w' → (∀ g, T g → T' g) → (∀ g, S' g → T' g ∧ (S g ∨ w.heap.size ≤ g)) → K2 V w' S' x seed d' y sy dy most R' n' := by
  obtain ⟨O1, R1, O2, R2, h1, h2, h3, h4, h5, h6⟩ := k
  refine ⟨fun g => S g ∨ (O2 g ∨ R2 g), fun g h => .inl h, ⟨O1, R1, h1, fun g hg => ⟨(h3 g hg).1, fun h => h.elim (h3 g hg).2.1 (h3 g hg).2.2⟩, fun g hg => hg.elim (h5 g) h2.lt, h6⟩, ?_⟩
  intro w' R' n' d' T' S' hR hn k' ho hT hS
  obtain ⟨O, Rd, j1, j2, j3, j4⟩ := k'
  refine ⟨O, Rd, O2, R2, j1, (h2.only ho (fun g hg h => h.1 (.inr hg))).mono hR hn, fun g hg => ⟨(j2 g hg).1, fun hs => (j2 g hg).2 (hS g hs).1, fun h => (j2 g hg).2 (hT g (.inr h))⟩, fun g hg => ⟨(h4 g hg).1, fun hs => ?_⟩, fun g hs => j3 g (hS g hs).1, j4⟩
  rcases (hS g hs).2 with h | h
  · exact (h4 g hg).2 h
  · have := h2.lt hg; omega
theorem K2.krx (k : K2 V w S x seed d y sy dy most R n) : Kr V w S x most seed R n d := by
  obtain ⟨T, h1, h2, _⟩ := k.onX
  exact h2.less_ h1
theorem K2.kry (k : K2 V w S x seed d y sy dy most R n) : Kr V w S y most sy R n dy := k.swap.krx
theorem K2.keep (k : K2 V w S x seed d y sy dy most R n) (hb : Below w.heap.size w w') {S' : Nat → Prop} (hS : ∀ g, S' g → S g ∨ (w.heap.size ≤ g ∧ g < w'.heap.size)) : K2 V w' S' x seed d y sy dy most R n := by
  obtain ⟨O1, R1, O2, R2, h1, h2, h3, h4, h5, h6⟩ := k
  refine ⟨O1, R1, O2, R2, h1.below hb, h2.below hb, fun g hg => ⟨(h3 g hg).1, fun hs => ?_, (h3 g hg).2.2⟩, fun g hg => ⟨(h4 g hg).1, fun hs => ?_⟩, fun g hs => ?_, h6.trans (hb.mono h6.size)⟩
  · rcases hS g hs with h | h
    · exact (h3 g hg).2.1 h
    · have := h1.lt hg; omega
  · rcases hS g hs with h | h
    · exact (h4 g hg).2 h
    · have := h2.lt hg; omega
  · rcases hS g hs with h | h
    · have := h5 g h; have := hb.size; omega
    · exact h.2
theorem K2.quiet (k : K2 V w S x seed d y sy dy most R n) (hb : Below w.heap.size w w') : K2 V w' S x seed d y sy dy most R n := k.keep hb (fun _ h => .inl h)
theorem K2.less (k : K2 V w S x seed d y sy dy most R n) {S' : Nat → Prop} (h : ∀ g, S' g → S g) : K2 V w S' x seed d y sy dy most R n := k.keep (Below.refl _ _) (fun g hg => .inl (h g hg))
theorem K2.mono (k : K2 V w S x seed d y sy dy most R n) {R' : Int} {n' : Nat} (hR : R ≤ R') (hn : n ≤ n') : K2 V w S x seed d y sy dy most R' n' := by
  obtain ⟨O1, R1, O2, R2, h1, h2, h3⟩ := k
  exact ⟨O1, R1, O2, R2, h1.mono hR hn, h2.mono hR hn, h3⟩
/-- Blocks that are kept may turn. -/
theorem K2.other (k : K2 V w S x seed d y sy dy most R n) {U : Nat → Prop} (ho : Only U w w') (hU : ∀ g, U g → S g ∧ V.heap.size ≤ g) : K2 V w' S x seed d y sy dy most R n := by
  obtain ⟨O1, R1, O2, R2, h1, h2, h3, h4, h5, h6⟩ := k
  exact ⟨O1, R1, O2, R2, h1.only ho (fun g hg h => (h3 g hg).2.1 (hU g h).1), h2.only ho (fun g hg h => (h4 g hg).2 (hU g h).1), h3, h4, fun g hg => Nat.lt_of_lt_of_le (h5 g hg) ho.size, h6.trans (ho.below (fun g h => (hU g h).2) h6.size)⟩
theorem K2.bel (k : K2 V w S x seed d y sy dy most R n) : Below V.heap.size V w := by
  obtain ⟨O1, R1, O2, R2, h1, h2, h3, h4, h5, h6⟩ := k
  exact h6
/-- The second index is made. -/
theorem Kr.start2 (k : Kr V w (fun _ => False) x most seed 0 0 d) (sy : Int) (h1 : 1 ≤ most) (h2 : most ≤ 65536) (s0 : 0 ≤ sy) (s1 : sy ≤ 18446744073709551615) :
    Calls Try.prog 12 #[.int .i64 most, .int .u64 sy] w fun e w' => ∃ y, e = .returned (.tuple #[.pointer (some ⟨y, 0, none⟩), .int .i64 0]) ∧ K2 V w' (fun _ => False) x seed d y sy ⟨[], [], []⟩ most 0 0 := by
  refine (rvnew_ok most sy h1 h2 s0 s1 w).mono ?_
  rintro e w' ⟨y, O, rfl, hr, ho, hb⟩
  obtain ⟨O1, R1, j1, j2, j3, j4⟩ := k
  refine ⟨y, rfl, O1, R1, O, fun _ => False, j1.below hb, hr, fun g hg => ⟨(j2 g hg).1, fun h => h, fun h => ?_⟩, fun g hg => ⟨?_, fun h => h⟩, fun _ h => h.elim, j4.trans (hb.mono j4.size)⟩
  · have h1 := j1.lt hg
    rcases h with h | h
    · have := ho g h; omega
    · exact h
  · rcases hg with h | h
    · have := ho g h; have := j4.size; omega
    · exact h.elim
end
/-- The two indexes have the same, but for slots. -/
def Eqx (d e : Dx) : Prop := d.nm = e.nm ∧ d.all = e.all
theorem Eqx.add {d e : Dx} (h : Eqx d e) (most : Int) (id : Nat) (ts : List (List UInt8)) : (d.add most id ts).2 = (e.add most id ts).2 ∧ Eqx (d.add most id ts).1 (e.add most id ts).1 := by
  obtain ⟨h1, h2⟩ := h
  obtain ⟨nm, all, sl⟩ := d
  obtain ⟨nm', all', sl'⟩ := e
  simp only at h1 h2
  subst h1 h2
  unfold Dx.add
  simp only
  split
  · exact ⟨rfl, rfl, rfl⟩
  · split
    · exact ⟨rfl, rfl, rfl⟩
    · exact ⟨rfl, rfl, rfl⟩
theorem Eqx.drop {d e : Dx} (h : Eqx d e) (id : Nat) : (d.drop id).2 = (e.drop id).2 ∧ Eqx (d.drop id).1 (e.drop id).1 := by
  obtain ⟨h1, h2⟩ := h
  obtain ⟨nm, all, sl⟩ := d
  obtain ⟨nm', all', sl'⟩ := e
  simp only at h1 h2
  subst h1 h2
  unfold Dx.drop
  simp only
  split
  · exact ⟨rfl, rfl, rfl⟩
  · exact ⟨rfl, rfl, rfl⟩
theorem Eqx.cut {d e : Dx} (h : Eqx d e) (n i : Int) : Eqx (d.cut n i).1 e := by
  obtain ⟨h1, h2⟩ := h
  have : (d.cut n i).1.nm = d.nm ∧ (d.cut n i).1.all = d.all := by
    unfold Dx.cut
    repeat' split
    all_goals exact ⟨rfl, rfl⟩
  exact ⟨this.1.trans h1, this.2.trans h2⟩
theorem addsM_len (most : Int) : ∀ (ts : List (List UInt8)) (l : Nms), (addsM most l ts).2.1.length ≤ ts.length
  | [], l => Nat.le_refl _
  | s :: r, l => by
    rw [addsM]
    split
    · simp only [List.length_cons]
      have := addsM_len most r (addM most l s).1
      omega
    · exact Nat.zero_le _
theorem add_len (most : Int) (d : Dx) (id : Nat) (ts : List (List UInt8)) : (d.add most id ts).2.1.length ≤ ts.length := by
  unfold Dx.add
  split
  · exact Nat.zero_le _
  · split
    · exact addsM_len most ts d.nm
    · exact Nat.zero_le _
theorem relsM_len : ∀ (ns : List Nat) (l : Nms), (relsM l ns).2.length ≤ ns.length
  | [], l => Nat.le_refl _
  | n :: r, l => by
    rw [relsM]
    have := relsM_len r (relM l (n : Int)).1
    simp only
    split
    · simp only [List.length_cons]
      omega
    · simp only [List.length_cons]
      omega
theorem Iw.numsLen {most R : Int} {d : Dx} (h : Iw most R d) {e : En} (he : e ∈ d.all) : e.tags.length ≤ 16 ∧ e.nums.length ≤ 16 := by
  have h5 := h.len e he
  have h6 := (tagsB_is h5.2.2).2.2.1
  exact ⟨h6, by rw [h5.1]; exact h6⟩
theorem Iw.drop_len {most R : Int} {d : Dx} (h : Iw most R d) (id : Nat) : (d.drop id).2.1.length ≤ 16 := by
  unfold Dx.drop
  cases he : getE d.all id with
  | none => exact Nat.zero_le _
  | some e => exact Nat.le_trans (relsM_len _ _) (h.numsLen (getE_some he).1).2
theorem Iw.lens {most R : Int} {d : Dx} (h : Iw most R d) (id : Nat) : (tagsE d.all id).length ≤ 1000 ∧ (numsE d.all id).length ≤ 1000 := by
  unfold tagsE numsE
  cases he : getE d.all id with
  | none => exact ⟨Nat.zero_le _, Nat.zero_le _⟩
  | some e =>
    have := h.numsLen (getE_some he).1
    exact ⟨Nat.le_trans this.1 (by decide), Nat.le_trans this.2 (by decide)⟩
theorem Iw.liveN {most R : Int} {d : Dx} (h : Iw most R d) (hm : most ≤ 65536) : Proofs.Ytfpkeinknhijaaa.liveN d.nm ≤ 100000 := by
  have := liveN_le d.nm
  have := h.wf.size
  omega
end Go.Proofs.Ytfpkeinknhijaaa
namespace Go.Proofs.Ytfpkeinknhijaaa
set_option linter.unusedVariables false
open Go.RowKit Go.Maps Go.Sort

section
variable {V w w' : World} {S : Nat → Prop} {x y : Nat} {most sx sy R : Int} {n : Nat} {d dy : Dx}
/-- What a law's helper leaves at one of two indexes. -/
def K2P (V w : World) (S : Nat → Prop) (x : Nat) (sx : Int) (d : Dx) (y : Nat) (sy : Int) (dy : Dx) (most R : Int) (n : Nat) (e : Ending) (w' : World) : Prop := e = .returned (.bool true) ∧ K2 V w' S x sx d y sy dy most R n ∧ Only (fun g => ¬ S g ∧ V.heap.size ≤ g) w w'
/-- A helper's call on the first index. -/
theorem K2.liftx (k : K2 V w S x sx d y sy dy most R n) {f : FuncId} {args : Array Value} {R' : Int} {n' : Nat} {d' : Dx} (hR : R ≤ R') (hn : n ≤ n') (h : ∀ T : Nat → Prop, (∀ g, S g → T g) → Kr V w T x most sx R n d → Calls Try.prog f args w (KrP V w T x most sx R' n' d')) : Calls Try.prog f args w (K2P V w S x sx d' y sy dy most R' n') := by
  obtain ⟨T, h1, h2, h3⟩ := k.onX
  refine (h T h1 h2).mono ?_
  rintro e w' ⟨rfl, k1, o1⟩
  exact ⟨rfl, h3 w' R' n' d' T S hR hn k1 o1 (fun g h => h) (fun g h => ⟨h1 g h, .inl h⟩), o1.more (fun g h => .inl ⟨fun hs => h.1 (h1 g hs), h.2⟩)⟩
/-- The same on the second one. -/
theorem K2.lifty (k : K2 V w S x sx d y sy dy most R n) {f : FuncId} {args : Array Value} {R' : Int} {n' : Nat} {d' : Dx} (hR : R ≤ R') (hn : n ≤ n') (h : ∀ T : Nat → Prop, (∀ g, S g → T g) → Kr V w T y most sy R n dy → Calls Try.prog f args w (KrP V w T y most sy R' n' d')) : Calls Try.prog f args w (K2P V w S x sx d y sy d' most R' n') := by
  refine (k.swap.liftx hR hn h).mono ?_
  rintro e w' ⟨rfl, k1, o1⟩
  exact ⟨rfl, k1.swap, o1⟩
/-- A call on the first index, whose row is kept. -/
def K2v (V w : World) (S : Nat → Prop) (x : Nat) (sx : Int) (d : Dx) (y : Nat) (sy : Int) (dy : Dx) (most R : Int) (n : Nat) (ns : List Nat) (er : Int) (e : Ending) (w' : World) : Prop :=
  ∃ v, e = .returned (.tuple #[v, .int .i64 er]) ∧ w'.ownsRow w.heap.size 3 1 v ns.length (numsV ns) ∧ K2 V w' (fun g => S g ∨ bkv v g) x sx d y sy dy most R n ∧ Only (fun g => ¬ S g ∧ V.heap.size ≤ g) w w'
theorem K2.liftv (k : K2 V w S x sx d y sy dy most R n) {f : FuncId} {args : Array Value} {R' : Int} {n' : Nat} {d' : Dx} {ns : List Nat} {er : Int} (hR : R ≤ R') (hn : n ≤ n') (h : ∀ T : Nat → Prop, (∀ g, S g → T g) → Kr V w T x most sx R n d → Calls Try.prog f args w (KvP V w T x most sx R' n' d' ns er)) : Calls Try.prog f args w (K2v V w S x sx d' y sy dy most R' n' ns er) := by
  obtain ⟨T, h1, h2, h3⟩ := k.onX
  refine (h T h1 h2).mono ?_
  rintro e w' ⟨v, rfl, hv, k1, o1⟩
  exact ⟨v, rfl, hv, h3 w' R' n' d' (fun g => T g ∨ bkv v g) (fun g => S g ∨ bkv v g) hR hn k1 o1 (fun g h => .inl h) (fun g h => h.elim (fun h => ⟨.inl (h1 g h), .inl h⟩) (fun h => ⟨.inr h, .inr (hv.lt g h).1⟩)), o1.more (fun g h => .inl ⟨fun hs => h.1 (h1 g hs), h.2⟩)⟩
theorem K2.addx (k : K2 V w S x sx d y sy dy most R n) (hn : n ≤ 10000) (hR0 : 0 ≤ R) (hR : R ≤ 2147483000) (id : Nat) (hid : id ≤ 18446744073709551615) (v : Value) (ts : List (List UInt8)) (hv : Reads w v (ts.map encStr)) (ht : ts.length ≤ 1000) {d' : Dx} {ns : List Nat} {er : Int} (hx : d.add most id ts = (d', ns, er)) :
    Calls Try.prog 13 #[.pointer (some ⟨x, 0, none⟩), .int .u64 (id : Int), v] w (K2v V w S x sx d' y sy dy most (R + 16) (n + 16) ns er) :=
  k.liftv (by omega) (by omega) (fun T h k1 => k1.addv (Nat.le_trans hn (by decide)) hR0 hR id hid v ts hv ht hx)
theorem K2.addsy (k : K2 V w S x sx d y sy dy most R n) (hn : n ≤ 10000) (hR0 : 0 ≤ R) (hR : R ≤ 2147483000) (id : Nat) (hid : id ≤ 18446744073709551615) (v : Value) (ts : List (List UInt8)) (hv : Reads w v (ts.map encStr)) (ht : ts.length ≤ 1000) {d' : Dx} {ns : List Nat} {er : Int} (hx : dy.add most id ts = (d', ns, er)) (hns : ns.length ≤ 1000)
    (wv : Value) (hw : Reads w wv (numsV ns)) (hwv : ∀ g, wv.ownBlock = some g → S g ∨ g < V.heap.size) :
    Calls Try.prog 14 #[.pointer (some ⟨y, 0, none⟩), .int .u64 (id : Int), v, wv, .int .i64 er] w (K2P V w S x sx d y sy d' most (R + 16) (n + 16)) :=
  k.lifty (by omega) (by omega) (fun T h k1 => k1.adds hn hR0 hR id hid v ts hv ht hx hns wv hw (fun g hg => (hwv g hg).imp (h g) (fun h => h)))
theorem K2.dropx (k : K2 V w S x sx d y sy dy most R n) (hn : n ≤ 100000) (hR : R ≤ 2147483647) (id : Nat) (hid : id ≤ 18446744073709551615) {d' : Dx} {ns : List Nat} {er : Int} (hx : d.drop id = (d', ns, er)) :
    Calls Try.prog 15 #[.pointer (some ⟨x, 0, none⟩), .int .u64 (id : Int)] w (K2v V w S x sx d' y sy dy most R n ns er) :=
  k.liftv (Int.le_refl _) (Nat.le_refl _) (fun T h k1 => k1.dropv hn hR id hid hx)
theorem K2.dropsy (k : K2 V w S x sx d y sy dy most R n) (hn : n ≤ 100000) (hR : R ≤ 2147483647) (id : Nat) (hid : id ≤ 18446744073709551615) {d' : Dx} {ns : List Nat} {er : Int} (hx : dy.drop id = (d', ns, er)) (hns : ns.length ≤ 1000)
    (wv : Value) (hw : Reads w wv (numsV ns)) (hwv : ∀ g, wv.ownBlock = some g → S g ∨ g < V.heap.size) :
    Calls Try.prog 16 #[.pointer (some ⟨y, 0, none⟩), .int .u64 (id : Int), wv, .int .i64 er] w (K2P V w S x sx d y sy d' most R n) :=
  k.lifty (Int.le_refl _) (Nat.le_refl _) (fun T h k1 => k1.drops hn hR id hid hx hns wv hw (fun g hg => (hwv g hg).imp (h g) (fun h => h)))
theorem K2.cutx (k : K2 V w S x sx d y sy dy most R n) (hn : n ≤ 100000) (t i : Int) :
    Calls Try.prog 17 #[.pointer (some ⟨x, 0, none⟩), .int .i64 t, .int .i64 i] w fun e w' => ∃ v, e = .returned v ∧ K2 V w' S x sx (d.cut t i).1 y sy dy most R (n + 1) ∧ Only (fun g => ¬ S g ∧ V.heap.size ≤ g) w w' := by
  obtain ⟨T, h1, h2, h3⟩ := k.onX
  refine (h2.cutv hn t i (d' := (d.cut t i).1) (b := (d.cut t i).2.1) (er := (d.cut t i).2.2) rfl).mono ?_
  rintro e w' ⟨rfl, k1, o1⟩
  exact ⟨_, rfl, h3 w' R (n + 1) _ T S (Int.le_refl _) (Nat.le_succ _) k1 o1 (fun g h => h) (fun g h => ⟨h1 g h, .inl h⟩), o1.more (fun g h => .inl ⟨fun hs => h.1 (h1 g hs), h.2⟩)⟩
theorem K2.hasy (k : K2 V w S x sx d y sy dy most R n) (id : Nat) (hid : id ≤ 18446744073709551615) (tv nv : Value) (ht : Reads w tv ((tagsE dy.all id).map encStr)) (hn : Reads w nv (numsV (numsE dy.all id))) {er : Int} (her : er = errE dy.all id) :
    Calls Try.prog 20 #[.pointer (some ⟨y, 0, none⟩), .int .u64 (id : Int), tv, nv, .int .i64 er] w (K2P V w S x sx d y sy dy most R n) :=
  k.lifty (Int.le_refl _) (Nat.le_refl _) (fun T h k1 => k1.has id hid tv nv ht hn (k1.facts.1.lens id) her)
theorem K2.holdsx (k : K2 V w S x sx d y sy dy most R n) (hn : n ≤ 10000) :
    Calls Try.prog 24 #[.pointer (some ⟨x, 0, none⟩)] w (K2P V w S x sx d y sy dy most R n) :=
  k.liftx (Int.le_refl _) (Nat.le_refl _) (fun T h k1 => holds_any k1 hn (k1.facts.1.liveN k1.facts.2.2.2.2.1))
theorem K2.holdsy (k : K2 V w S x sx d y sy dy most R n) (hn : n ≤ 10000) :
    Calls Try.prog 24 #[.pointer (some ⟨y, 0, none⟩)] w (K2P V w S x sx d y sy dy most R n) :=
  k.lifty (Int.le_refl _) (Nat.le_refl _) (fun T h k1 => holds_any k1 hn (k1.facts.1.liveN k1.facts.2.2.2.2.1))
/-- Kept blocks turn, and others are kept from now on. -/
theorem K2.go (k : K2 V w S x sx d y sy dy most R n) {U S' : Nat → Prop} (ho : Only U w w') (hU : ∀ g, U g → S g ∧ V.heap.size ≤ g) (hS : ∀ g, S' g → S g ∨ (w.heap.size ≤ g ∧ g < w'.heap.size)) : K2 V w' S' x sx d y sy dy most R n := by
  obtain ⟨O1, R1, O2, R2, h1, h2, h3, h4, h5, h6⟩ := k
  refine ⟨O1, R1, O2, R2, h1.only ho (fun g hg h => (h3 g hg).2.1 (hU g h).1), h2.only ho (fun g hg h => (h4 g hg).2 (hU g h).1), fun g hg => ⟨(h3 g hg).1, fun hs => ?_, (h3 g hg).2.2⟩, fun g hg => ⟨(h4 g hg).1, fun hs => ?_⟩, fun g hs => ?_, h6.trans (ho.below (fun g h => (hU g h).2) h6.size)⟩
  · rcases hS g hs with h | h
    · exact (h3 g hg).2.1 h
    · have := h1.lt hg; omega
  · rcases hS g hs with h | h
    · exact (h4 g hg).2 h
    · have := h2.lt hg; omega
  · rcases hS g hs with h | h
    · have := h5 g h; have := ho.size; omega
    · exact h.2
theorem only_grown {v : Value} (h : w.grownBy w' v.ownBlock) : Only (bkv v) w w' := ⟨h.os, h.tape, h.output, h.size, fun i hi hn => h.block i hi (fun e => hn e.symm)⟩
/-- A row of the law's own that is kept grows by one. -/
theorem K2.push (k : K2 V w S x sx d y sy dy most R n) {o : Obj} {v v' : Value} {t : TypeId} {B m s : Nat} {xs : List Value} (hS : ∀ g, bkv v g → S g) (hV : ∀ g, bkv v g → V.heap.size ≤ g) (hg : (w.alloc o).grownBy w' v.ownBlock) (hown : w'.ownsRow B t s v' m xs) (hv : v'.ownBlock = v.ownBlock ∨ v'.ownBlock = some (w.heap.size + 1)) : K2 V w' (bkv v') x sx d y sy dy most R n := by
  have hal : Below w.heap.size w (w.alloc o) := (Below.refl _ _).alloc (Nat.le_refl _) o
  refine (k.quiet hal).go (only_grown hg) (fun g h => ⟨hS g h, hV g h⟩) (fun g h => ?_)
  rcases hv with e | e
  · exact .inl (hS g (by unfold bkv at h ⊢; rw [← e]; exact h))
  · refine .inr ⟨?_, (hown.lt g h).2⟩
    unfold bkv at h
    rw [e] at h
    injection h with h
    have : (w.alloc o).heap.size = w.heap.size + 1 := by simp
    omega
end
end Go.Proofs.Ytfpkeinknhijaaa
