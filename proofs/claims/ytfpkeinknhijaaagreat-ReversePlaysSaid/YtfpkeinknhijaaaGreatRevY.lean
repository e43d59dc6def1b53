/- An index of entries: Copy. -/
import Derived.Test.YtfpkeinknhijaaaGreatRevH
import Derived.Deep.AppendLies
namespace Go.Proofs.YtfpkeinknhijaaaGreat
set_option linter.unusedVariables false
open Go.RowKit Go.Maps Go.Sort

/-- A copy at its beginning: the names are there, the maps are empty. -/
structure Cp0 (w wx : World) (most seed : Int) (la : Nat) (l0 : Nms) (nsl nwr : Int) (c tb lb sb : Nat) (Ot : Nat → Prop) : Prop where
  bk : Blk wx c 63 #[.pointer (some ⟨tb, 0, none⟩), .int .u64 (la : Int), .map (some lb), .map (some sb), .int .i64 nsl, .int .i64 nwr]
  tab : Tab wx tb Ot most seed l0
  ml : MapL wx lb 0 []
  mn : MapN wx sb 0 []
  new : (w.heap.size ≤ c ∧ w.heap.size ≤ lb ∧ w.heap.size ≤ sb) ∧ ∀ g, Ot g → w.heap.size ≤ g
  ne : (c ≠ lb ∧ c ≠ sb ∧ lb ≠ sb) ∧ ∀ g, Ot g → g ≠ c ∧ g ≠ lb ∧ g ≠ sb
  bel : Below w.heap.size w wx
/-- An empty map. -/
theorem mapL_empty {W : World} {g : Nat} (h : W.heap[g]? = some (.map #[] 0)) : MapL W g 0 [] := by
  have hl : g < W.heap.size := (Array.getElem?_eq_some_iff.1 h).1
  have hs : ({W with heap := W.heap.extract 0 g} : World).heap.size = g := by simp; omega
  have h1 := World.mapv.made (val := entV) (q := .u64) ({W with heap := W.heap.extract 0 g} : World) Tryz.prog 22 (fun _ => True)
  have h2 := heap_alloc_new ({W with heap := W.heap.extract 0 g} : World) (.map #[] 0)
  rw [hs] at h1 h2
  exact mapv_turn h1 (h.trans h2.symm)
theorem mapN_empty {W : World} {g : Nat} (h : W.heap[g]? = some (.map #[] 0)) : MapN W g 0 [] := by
  have hl : g < W.heap.size := (Array.getElem?_eq_some_iff.1 h).1
  have hs : ({W with heap := W.heap.extract 0 g} : World).heap.size = g := by simp; omega
  have h1 := World.mapv.made (val := slcV) (q := .i64) ({W with heap := W.heap.extract 0 g} : World) Tryz.prog 3 (fun _ => True)
  have h2 := heap_alloc_new ({W with heap := W.heap.extract 0 g} : World) (.map #[] 0)
  rw [hs] at h1 h2
  exact mapv_turn h1 (h.trans h2.symm)
section
variable {w w2 : World} {most seed : Int} {la : Nat} {l0 : Nms} {nsl nwr : Int} {tb2 lb2 sb2 : Nat} {O2 : Nat → Prop}
/-- Both maps behind the names. -/
theorem cp0_A (hbw : Below w.heap.size w w2) (ht : Tab w2 tb2 O2 most seed l0) (hO : ∀ g, O2 g → w.heap.size ≤ g) (hp : (lb2 = w2.heap.size ∧ sb2 = w2.heap.size + 1) ∨ (lb2 = w2.heap.size + 1 ∧ sb2 = w2.heap.size)) :
    Cp0 w (((w2.alloc (.map #[] 0)).alloc (.map #[] 0)).alloc (.cells #[.pointer (some ⟨tb2, 0, none⟩), .int .u64 (la : Int), .map (some lb2), .map (some sb2), .int .i64 nsl, .int .i64 nwr] 63)) most seed la l0 nsl nwr (w2.heap.size + 1 + 1) tb2 lb2 sb2 O2 := by
  have hs := hbw.size
  have h1 : Below w2.heap.size w2 (w2.alloc (.map #[] 0)) := (Below.refl _ _).alloc (Nat.le_refl _) _
  have h2 : Below w2.heap.size w2 ((w2.alloc (.map #[] 0)).alloc (.map #[] 0)) := h1.alloc (by simp) _
  have h3 := h2.alloc (by simp; omega) (.cells #[.pointer (some ⟨tb2, 0, none⟩), .int .u64 (la : Int), .map (some lb2), .map (some sb2), .int .i64 nsl, .int .i64 nwr] 63)
  have m1 : (((w2.alloc (.map #[] 0)).alloc (.map #[] 0)).alloc (.cells #[.pointer (some ⟨tb2, 0, none⟩), .int .u64 (la : Int), .map (some lb2), .map (some sb2), .int .i64 nsl, .int .i64 nwr] 63)).heap[w2.heap.size]? = some (.map #[] 0) := (Below.heap_alloc _ _ _ (by simp; omega)).trans ((Below.heap_alloc _ _ _ (by simp)).trans (heap_alloc_new w2 _))
  have m2 : (((w2.alloc (.map #[] 0)).alloc (.map #[] 0)).alloc (.cells #[.pointer (some ⟨tb2, 0, none⟩), .int .u64 (la : Int), .map (some lb2), .map (some sb2), .int .i64 nsl, .int .i64 nwr] 63)).heap[w2.heap.size + 1]? = some (.map #[] 0) := (Below.heap_alloc _ _ _ (by simp)).trans (by have := heap_alloc_new (w2.alloc (.map #[] 0)) (.map #[] 0); simpa using this)
  have hb := Blk.new ((w2.alloc (.map #[] 0)).alloc (.map #[] 0)) 63 #[.pointer (some ⟨tb2, 0, none⟩), .int .u64 (la : Int), .map (some lb2), .map (some sb2), .int .i64 nsl, .int .i64 nwr]
  rw [show ((w2.alloc (.map #[] 0)).alloc (.map #[] 0)).heap.size = w2.heap.size + 1 + 1 by simp] at hb
  have hbel := hbw.trans (h3.mono hs)
  have hne : ∀ g, O2 g → g < w2.heap.size := fun g hg => ht.lt hg
  rcases hp with ⟨rfl, rfl⟩ | ⟨rfl, rfl⟩
  · exact ⟨hb, ht.below h3, mapL_empty m1, mapN_empty m2, ⟨⟨by omega, by omega, by omega⟩, hO⟩, ⟨⟨by omega, by omega, by omega⟩, fun g hg => by have := hne g hg; omega⟩, hbel⟩
  · exact ⟨hb, ht.below h3, mapL_empty m2, mapN_empty m1, ⟨⟨by omega, by omega, by omega⟩, hO⟩, ⟨⟨by omega, by omega, by omega⟩, fun g hg => by have := hne g hg; omega⟩, hbel⟩
/-- One map ahead of the names. -/
theorem cp0_B (hbw : Below w.heap.size w w2) (hb2 : Below (w.alloc (.map #[] 0)).drew.heap.size (w.alloc (.map #[] 0)).drew w2) (ht : Tab w2 tb2 O2 most seed l0) (hO : ∀ g, O2 g → (w.alloc (.map #[] 0)).drew.heap.size ≤ g) (hp : (lb2 = w.heap.size ∧ sb2 = w2.heap.size) ∨ (lb2 = w2.heap.size ∧ sb2 = w.heap.size)) :
    Cp0 w ((w2.alloc (.map #[] 0)).alloc (.cells #[.pointer (some ⟨tb2, 0, none⟩), .int .u64 (la : Int), .map (some lb2), .map (some sb2), .int .i64 nsl, .int .i64 nwr] 63)) most seed la l0 nsl nwr (w2.heap.size + 1) tb2 lb2 sb2 O2 := by
  have hs := hbw.size
  have hsz : (w.alloc (.map #[] 0)).drew.heap.size = w.heap.size + 1 := by simp [World.drew]
  rw [hsz] at hO
  have hs2 := hb2.size
  rw [hsz] at hs2
  have h1 : Below w2.heap.size w2 (w2.alloc (.map #[] 0)) := (Below.refl _ _).alloc (Nat.le_refl _) _
  have h3 := h1.alloc (by simp) (.cells #[.pointer (some ⟨tb2, 0, none⟩), .int .u64 (la : Int), .map (some lb2), .map (some sb2), .int .i64 nsl, .int .i64 nwr] 63)
  have m0 : w2.heap[w.heap.size]? = some (.map #[] 0) := (hb2.block _ (by rw [hsz]; omega)).trans (heap_alloc_new w _)
  have m1 := (h3.block w.heap.size (by omega)).trans m0
  have m2 : ((w2.alloc (.map #[] 0)).alloc (.cells #[.pointer (some ⟨tb2, 0, none⟩), .int .u64 (la : Int), .map (some lb2), .map (some sb2), .int .i64 nsl, .int .i64 nwr] 63)).heap[w2.heap.size]? = some (.map #[] 0) := (Below.heap_alloc _ _ _ (by simp)).trans (heap_alloc_new w2 _)
  have hb := Blk.new (w2.alloc (.map #[] 0)) 63 #[.pointer (some ⟨tb2, 0, none⟩), .int .u64 (la : Int), .map (some lb2), .map (some sb2), .int .i64 nsl, .int .i64 nwr]
  rw [show (w2.alloc (.map #[] 0)).heap.size = w2.heap.size + 1 by simp] at hb
  have hbel := hbw.trans (h3.mono hs)
  have hne : ∀ g, O2 g → g < w2.heap.size := fun g hg => ht.lt hg
  rcases hp with ⟨rfl, rfl⟩ | ⟨rfl, rfl⟩
  · exact ⟨hb, ht.below h3, mapL_empty m1, mapN_empty m2, ⟨⟨by omega, by omega, by omega⟩, fun g hg => by have := hO g hg; omega⟩, ⟨⟨by omega, by omega, by omega⟩, fun g hg => by have := hne g hg; have := hO g hg; omega⟩, hbel⟩
  · exact ⟨hb, ht.below h3, mapL_empty m2, mapN_empty m1, ⟨⟨by omega, by omega, by omega⟩, fun g hg => by have := hO g hg; omega⟩, ⟨⟨by omega, by omega, by omega⟩, fun g hg => by have := hne g hg; have := hO g hg; omega⟩, hbel⟩
/-- Both maps ahead of the names. -/
theorem cp0_C (hbw : Below w.heap.size w w2) (hb2 : Below ((w.alloc (.map #[] 0)).alloc (.map #[] 0)).drew.heap.size ((w.alloc (.map #[] 0)).alloc (.map #[] 0)).drew w2) (ht : Tab w2 tb2 O2 most seed l0) (hO : ∀ g, O2 g → ((w.alloc (.map #[] 0)).alloc (.map #[] 0)).drew.heap.size ≤ g) (hp : (lb2 = w.heap.size ∧ sb2 = w.heap.size + 1) ∨ (lb2 = w.heap.size + 1 ∧ sb2 = w.heap.size)) :
    Cp0 w (w2.alloc (.cells #[.pointer (some ⟨tb2, 0, none⟩), .int .u64 (la : Int), .map (some lb2), .map (some sb2), .int .i64 nsl, .int .i64 nwr] 63)) most seed la l0 nsl nwr w2.heap.size tb2 lb2 sb2 O2 := by
  have hs := hbw.size
  have hsz : ((w.alloc (.map #[] 0)).alloc (.map #[] 0)).drew.heap.size = w.heap.size + 1 + 1 := by simp [World.drew]
  rw [hsz] at hO
  have hs2 := hb2.size
  rw [hsz] at hs2
  have h3 : Below w2.heap.size w2 (w2.alloc (.cells #[.pointer (some ⟨tb2, 0, none⟩), .int .u64 (la : Int), .map (some lb2), .map (some sb2), .int .i64 nsl, .int .i64 nwr] 63)) := (Below.refl _ _).alloc (Nat.le_refl _) _
  have m1 := (h3.block w.heap.size (by omega)).trans ((hb2.block _ (by rw [hsz]; omega)).trans ((Below.heap_alloc _ _ _ (by simp)).trans (heap_alloc_new w (.map #[] 0))))
  have m2 := (h3.block (w.heap.size + 1) (by omega)).trans ((hb2.block _ (by rw [hsz]; omega)).trans (show ((w.alloc (.map #[] 0)).alloc (.map #[] 0)).heap[w.heap.size + 1]? = some (.map #[] 0) by have := heap_alloc_new (w.alloc (.map #[] 0)) (.map #[] 0); simpa using this))
  have hb := Blk.new w2 63 #[.pointer (some ⟨tb2, 0, none⟩), .int .u64 (la : Int), .map (some lb2), .map (some sb2), .int .i64 nsl, .int .i64 nwr]
  have hbel := hbw.trans (h3.mono hs)
  have hne : ∀ g, O2 g → g < w2.heap.size := fun g hg => ht.lt hg
  rcases hp with ⟨rfl, rfl⟩ | ⟨rfl, rfl⟩
  · exact ⟨hb, ht.below h3, mapL_empty m1, mapN_empty m2, ⟨⟨by omega, by omega, by omega⟩, fun g hg => by have := hO g hg; omega⟩, ⟨⟨by omega, by omega, by omega⟩, fun g hg => by have := hne g hg; have := hO g hg; omega⟩, hbel⟩
  · exact ⟨hb, ht.below h3, mapL_empty m2, mapN_empty m1, ⟨⟨by omega, by omega, by omega⟩, fun g hg => by have := hO g hg; omega⟩, ⟨⟨by omega, by omega, by omega⟩, fun g hg => by have := hne g hg; have := hO g hg; omega⟩, hbel⟩
end
/-- Which blocks are whose: the old ones lie below w, the copy's are apart. -/
structure Cps (w : World) (own : Nat → Option Nat) (Rd : Nat → Prop) (c lb2 sb2 : Nat) (O2 : Nat → Prop) : Prop where
  st : ∀ g, own g ≠ none ∨ Rd g → g < w.heap.size
  new : w.heap.size ≤ c ∧ w.heap.size ≤ lb2 ∧ w.heap.size ≤ sb2
  newO : ∀ g, O2 g → w.heap.size ≤ g
  ne : c ≠ lb2 ∧ c ≠ sb2 ∧ lb2 ≠ sb2
  neO : ∀ g, O2 g → g ≠ c ∧ g ≠ lb2 ∧ g ≠ sb2
/-- The copy while entries are copied: ks are the entries so far. -/
structure Cp1 (w wr : World) (x tb lb sb : Nat) (most seed R : Int) (n : Nat) (own : Nat → Option Nat) (Rd : Nat → Prop) (lm : List (Nat × (Slc × Slc))) (sm : List (Nat × Slc)) (l0 : Nms) (d : Dx) (la : Nat) (nsl nwr : Int) (c tb2 lb2 sb2 : Nat) (O2 : Nat → Prop) (ks : List Nat) (m2 : List (Nat × (Slc × Slc))) : Prop where
  old : Ry wr x tb lb sb most seed R n own Rd lm sm l0 d
  bk : Blk wr c 63 #[.pointer (some ⟨tb2, 0, none⟩), .int .u64 (la : Int), .map (some lb2), .map (some sb2), .int .i64 nsl, .int .i64 nwr]
  tab : Tab wr tb2 O2 most seed l0
  ml : MapL wr lb2 ks.length m2
  mn : MapN wr sb2 0 []
  has : ∀ id, mhas m2 id = decide (id ∈ ks)
  get : ∀ id, id ∈ ks → mget entZ m2 id = mget entZ lm id
  bel : Below w.heap.size w wr
  cps : Cps w own Rd c lb2 sb2 O2
/-- The copy while slots are copied: ks are the numbers so far, rw says whose the new rows are. -/
structure Cp2 (w wr : World) (x tb lb sb : Nat) (most seed R : Int) (n : Nat) (own : Nat → Option Nat) (Rd : Nat → Prop) (lm : List (Nat × (Slc × Slc))) (sm : List (Nat × Slc)) (l0 : Nms) (d : Dx) (la : Nat) (nsl nwr : Int) (c tb2 lb2 sb2 : Nat) (O2 : Nat → Prop) (m2 : List (Nat × (Slc × Slc))) (B : Nat) (ks : List Nat) (s2 : List (Nat × Slc)) (rw_ : Nat → Option Nat) : Prop where
  old : Ry wr x tb lb sb most seed R n own Rd lm sm l0 d
  bk : Blk wr c 63 #[.pointer (some ⟨tb2, 0, none⟩), .int .u64 (la : Int), .map (some lb2), .map (some sb2), .int .i64 nsl, .int .i64 nwr]
  tab : Tab wr tb2 O2 most seed l0
  ml : Lv wr lb2 n Rd m2 d.all
  mn : MapN wr sb2 ks.length s2
  has : ∀ k, mhas s2 k = decide (k ∈ ks)
  rows : ∀ k, k ∈ ks → wr.ownsRow 0 22 1 (slcV (mget slcZ s2 k)) (ofX d.sl k).length (idsV (ofX d.sl k)) ∧ ∀ g, (slcV (mget slcZ s2 k)).ownBlock = some g → rw_ g = some (k + 4)
  rlt : ∀ g k, rw_ g = some k → B ≤ g ∧ g < wr.heap.size
  rge : ∀ g k, rw_ g = some k → 4 ≤ k
  bel : Below w.heap.size w wr
  cps : Cps w own Rd c lb2 sb2 O2
  bl : c < B ∧ lb2 < B ∧ sb2 < B ∧ w.heap.size ≤ B ∧ ∀ g, O2 g → g < B
section
variable {w wr w1 : World} {x tb lb sb : Nat} {most seed R : Int} {n : Nat} {own : Nat → Option Nat} {Rd : Nat → Prop} {lm : List (Nat × (Slc × Slc))} {sm : List (Nat × Slc)} {l0 : Nms} {d : Dx} {la : Nat} {nsl nwr : Int} {c tb2 lb2 sb2 : Nat} {O2 : Nat → Prop} {ks : List Nat} {m2 : List (Nat × (Slc × Slc))} {s2 : List (Nat × Slc)} {rw_ : Nat → Option Nat} {B : Nat} {U : Nat → Prop}
theorem Cp1.only (h : Cp1 w wr x tb lb sb most seed R n own Rd lm sm l0 d la nsl nwr c tb2 lb2 sb2 O2 ks m2) (ho : Only U wr w1) (hU : ∀ g, U g → w.heap.size ≤ g ∧ g ≠ c ∧ g ≠ lb2 ∧ g ≠ sb2 ∧ ¬ O2 g) : Cp1 w w1 x tb lb sb most seed R n own Rd lm sm l0 d la nsl nwr c tb2 lb2 sb2 O2 ks m2 :=
  ⟨h.old.only ho (fun g hg he => by have := h.cps.st g hg; have := (hU g he).1; omega), h.bk.only ho (fun he => (hU _ he).2.1 rfl), h.tab.only ho (fun g hg he => (hU g he).2.2.2.2 hg), mapv_turn h.ml (ho.block lb2 h.ml.lt (fun he => (hU _ he).2.2.1 rfl)), mapv_turn h.mn (ho.block sb2 h.mn.lt (fun he => (hU _ he).2.2.2.1 rfl)), h.has, h.get, h.bel.trans (ho.below (fun g hg => (hU g hg).1) h.bel.size), h.cps⟩
theorem Cp1.below (h : Cp1 w wr x tb lb sb most seed R n own Rd lm sm l0 d la nsl nwr c tb2 lb2 sb2 O2 ks m2) (hb : Below wr.heap.size wr w1) : Cp1 w w1 x tb lb sb most seed R n own Rd lm sm l0 d la nsl nwr c tb2 lb2 sb2 O2 ks m2 := h.only (Only.of_below hb (fun _ => False)) (fun g h => h.elim)
/-- One entry more. -/
theorem Cp1.put (h : Cp1 w wr x tb lb sb most seed R n own Rd lm sm l0 d la nsl nwr c tb2 lb2 sb2 O2 ks m2) {id : Nat} {v : Slc × Slc} (hv : mget entZ lm id = v) (hg : wr.grownBy w1 (some lb2)) (hm : MapL w1 lb2 (ks.length + 1) (mput m2 id v)) : Cp1 w w1 x tb lb sb most seed R n own Rd lm sm l0 d la nsl nwr c tb2 lb2 sb2 O2 (ks ++ [id]) (mput m2 id v) := by
  have ho : Only (fun g => g = lb2) wr w1 := Only.of_grown (S := fun g => g = lb2) hg rfl
  have hap := h.ml.apart Tryz.underlying22
  obtain ⟨k1, k2, k3⟩ := h.cps.ne
  refine ⟨h.old.only ho (fun g hg he => by have := h.cps.st g hg; have := h.cps.new; omega), h.bk.only ho k1, h.tab.only ho (fun g hg he => (h.cps.neO g hg).2.1 he), by simpa using hm, mapv_turn h.mn (ho.block sb2 h.mn.lt (fun he => k3 he.symm)), fun i => ?_, fun i hi => ?_, h.bel.trans (ho.below (fun g hg => by rw [hg]; exact h.cps.new.2.1) h.bel.size), h.cps⟩
  · rw [mhas_put, h.has, Bool.eq_iff_iff, Bool.or_eq_true, decide_eq_true_eq, decide_eq_true_eq, decide_eq_true_eq, List.mem_append, List.mem_singleton]
    exact ⟨fun h => h.elim .inr .inl, fun h => h.elim .inr .inl⟩
  · by_cases he : i = id
    · subst he
      rw [mget_put_same hap, hv]
    · rw [mget_put_other hap he]
      exact h.get i ((List.mem_append.1 hi).elim (fun h => h) (fun h => absurd (List.mem_singleton.1 h) he))
/-- All entries are copied. -/
theorem Cp1.done (h : Cp1 w wr x tb lb sb most seed R n own Rd lm sm l0 d la nsl nwr c tb2 lb2 sb2 O2 ks m2) (hp : ks.Perm (lm.map (·.1))) (hB : B = wr.heap.size) :
    Cp2 w wr x tb lb sb most seed R n own Rd lm sm l0 d la nsl nwr c tb2 lb2 sb2 O2 m2 B [] [] (fun _ => none) := by
  subst hB
  have hmem : ∀ id, id ∈ ks ↔ mhas lm id = true := fun id => by rw [hp.mem_iff, mhas_iff]; rfl
  have hlen : ks.length ≤ n := by
    have h1 := hp.length_eq
    rw [List.length_map] at h1
    have := h.old.lv.mp.size
    omega
  refine ⟨h.old, h.bk, h.tab, ⟨h.ml.mono hlen, fun id => ?_, fun e he hl => ?_⟩, h.mn, fun k => rfl, fun k hk => (by cases hk), fun g k hg => (by cases hg), fun g k hg => (by cases hg), h.bel, h.cps, ⟨h.bk.lt, h.ml.lt, h.mn.lt, h.bel.size, fun g hg => h.tab.lt hg⟩⟩
  · rw [h.has, ← h.old.lv.has id, Bool.eq_iff_iff, decide_eq_true_eq]
    exact hmem id
  · have hk : e.id ∈ ks := by
      rw [hmem, h.old.lv.has]
      exact liveE_iff.2 ⟨e, he, rfl, hl⟩
    rw [h.get _ hk]
    exact h.old.lv.at_ e he hl
theorem Cp2.only (h : Cp2 w wr x tb lb sb most seed R n own Rd lm sm l0 d la nsl nwr c tb2 lb2 sb2 O2 m2 B ks s2 rw_) (ho : Only U wr w1) (hU : ∀ g, U g → B ≤ g ∧ rw_ g = none) : Cp2 w w1 x tb lb sb most seed R n own Rd lm sm l0 d la nsl nwr c tb2 lb2 sb2 O2 m2 B ks s2 rw_ := by
  obtain ⟨b1, b2, b3, b4, b5⟩ := h.bl
  have hlt : ∀ g, g < B → ¬ U g := fun g hg he => by have := (hU g he).1; omega
  have hst := h.cps.st
  exact ⟨h.old.only ho (fun g hg => hlt g (by have := hst g hg; omega)), h.bk.only ho (hlt _ b1), h.tab.only ho (fun g hg => hlt g (b5 g hg)), h.ml.only ho (hlt _ b2) (fun g hg => hlt g (by have := hst g (.inr hg); omega)), mapv_turn h.mn (ho.block sb2 h.mn.lt (hlt _ b3)), h.has, fun k hk => ⟨ownsRow_only (h.rows k hk).1 ho (fun g hg he => by have := (hU g he).2; rw [(h.rows k hk).2 g hg] at this; cases this), (h.rows k hk).2⟩, fun g k hg => ⟨(h.rlt g k hg).1, Nat.lt_of_lt_of_le (h.rlt g k hg).2 ho.size⟩, h.rge, h.bel.trans (ho.below (fun g hg => by have := (hU g hg).1; omega) h.bel.size), h.cps, h.bl⟩
theorem Cp2.below (h : Cp2 w wr x tb lb sb most seed R n own Rd lm sm l0 d la nsl nwr c tb2 lb2 sb2 O2 m2 B ks s2 rw_) (hb : Below wr.heap.size wr w1) : Cp2 w w1 x tb lb sb most seed R n own Rd lm sm l0 d la nsl nwr c tb2 lb2 sb2 O2 m2 B ks s2 rw_ := h.only (Only.of_below hb (fun _ => False)) (fun g h => h.elim)
/-- Whose a new row is. -/
def rwP (rw_ : Nat → Option Nat) (lo hi k : Nat) (g : Nat) : Option Nat := if lo ≤ g ∧ g < hi then some (k + 4) else rw_ g
/-- One number more: a new row lies between lo and hi. -/
theorem Cp2.put {lo hi : Nat} (h : Cp2 w wr x tb lb sb most seed R n own Rd lm sm l0 d la nsl nwr c tb2 lb2 sb2 O2 m2 B ks s2 rw_) {k : Nat} {v : Slc} (hk : ¬ k ∈ ks) (hlo : B ≤ lo) (hhi : hi ≤ wr.heap.size) (hfree : ∀ g t, rw_ g = some t → g < lo) (hrow : wr.ownsRow 0 22 1 (slcV v) (ofX d.sl k).length (idsV (ofX d.sl k))) (hvb : ∀ g, (slcV v).ownBlock = some g → lo ≤ g ∧ g < hi) (hg : wr.grownBy w1 (some sb2)) (hm : MapN w1 sb2 (ks.length + 1) (mput s2 k v)) :
    Cp2 w w1 x tb lb sb most seed R n own Rd lm sm l0 d la nsl nwr c tb2 lb2 sb2 O2 m2 B (ks ++ [k]) (mput s2 k v) (rwP rw_ lo hi k) := by
  have ho : Only (fun g => g = sb2) wr w1 := Only.of_grown (S := fun g => g = sb2) hg rfl
  have hap := h.mn.apart Tryz.underlying3
  obtain ⟨k1, k2, k3⟩ := h.cps.ne
  obtain ⟨b1, b2, b3, b4, b5⟩ := h.bl
  have hst := h.cps.st
  have hnew := h.cps.new
  refine ⟨h.old.only ho (fun g hg he => by have := hst g hg; omega), h.bk.only ho k2, h.tab.only ho (fun g hg he => (h.cps.neO g hg).2.2 he), h.ml.only ho k3 (fun g hg he => by have := hst g (.inr hg); omega), by simpa using hm, fun i => ?_, fun i hi => ?_, fun g t hg => ?_, fun g t hg => ?_, h.bel.trans (ho.below (fun g hg => by omega) h.bel.size), h.cps, h.bl⟩
  · rw [mhas_put, h.has, Bool.eq_iff_iff, Bool.or_eq_true, decide_eq_true_eq, decide_eq_true_eq, decide_eq_true_eq, List.mem_append, List.mem_singleton]
    exact ⟨fun h => h.elim .inr .inl, fun h => h.elim .inr .inl⟩
  · by_cases he : i = k
    · subst he
      rw [mget_put_same hap]
      refine ⟨ownsRow_only hrow ho (fun g hg he => by have := hvb g hg; omega), fun g hg => ?_⟩
      unfold rwP
      rw [if_pos (hvb g hg)]
    · rw [mget_put_other hap he]
      have hi' := (List.mem_append.1 hi).elim (fun h => h) (fun h => absurd (List.mem_singleton.1 h) he)
      obtain ⟨r1, r2⟩ := h.rows i hi'
      refine ⟨ownsRow_only r1 ho (fun g hg he => by have := (h.rlt g _ (r2 g hg)).1; omega), fun g hg => ?_⟩
      unfold rwP
      rw [if_neg (fun hh => by have := hfree g _ (r2 g hg); omega)]
      exact r2 g hg
  · unfold rwP at hg
    split at hg
    · rename_i hh
      exact ⟨by omega, by have := ho.size; omega⟩
    · exact ⟨(h.rlt g t hg).1, Nat.lt_of_lt_of_le (h.rlt g t hg).2 ho.size⟩
  · unfold rwP at hg
    split at hg
    · injection hg with hg
      omega
    · exact h.rge g t hg
open Classical in
/-- Whose a block of the copy is. -/
noncomputable def ownC (c lb2 sb2 : Nat) (O2 : Nat → Prop) (rw_ : Nat → Option Nat) (g : Nat) : Option Nat := if g = c then some 0 else if g = lb2 then some 1 else if g = sb2 then some 2 else if O2 g then some 3 else rw_ g
theorem Cp2.done (h : Cp2 w wr x tb lb sb most seed R n own Rd lm sm l0 d la nsl nwr c tb2 lb2 sb2 O2 m2 B ks s2 rw_) (hp : ks.Perm (sm.map (·.1))) (hla : lastE d.all = la) (hns : (d.sl.length : Int) = nsl) (hnw : (wrongX d.all d.sl : Int) = nwr) :
    Ri wr c most seed R n (fun g => ownC c lb2 sb2 O2 rw_ g ≠ none) Rd d ∧ ∀ g, ownC c lb2 sb2 O2 rw_ g ≠ none → w.heap.size ≤ g := by
  subst hla hns hnw
  have hmem : ∀ k, k ∈ ks ↔ mhas sm k = true := fun k => by rw [hp.mem_iff, mhas_iff]; rfl
  have hlen : ks.length ≤ n := by
    have h1 := hp.length_eq
    rw [List.length_map] at h1
    have := h.old.sv.mp.size
    omega
  obtain ⟨k1, k2, k3⟩ := h.cps.ne
  obtain ⟨b1, b2, b3, b4, b5⟩ := h.bl
  have hst := h.cps.st
  obtain ⟨n1, n2, n3⟩ := h.cps.new
  have hO : ∀ g k, ownC c lb2 sb2 O2 rw_ g = some k → w.heap.size ≤ g ∧ g < wr.heap.size := fun g k hg => by
    unfold ownC at hg
    split at hg
    · rename_i e; subst e; exact ⟨n1, h.bk.lt⟩
    · split at hg
      · rename_i e; subst e; exact ⟨n2, h.ml.mp.lt⟩
      · split at hg
        · rename_i e; subst e; exact ⟨n3, h.mn.lt⟩
        · split at hg
          · rename_i e; exact ⟨h.cps.newO g e, h.tab.lt e⟩
          · have := h.rlt g k hg; exact ⟨by omega, this.2⟩
  have hrow : ∀ g k, rw_ g = some k → ownC c lb2 sb2 O2 rw_ g = some k := fun g k hg => by
    have := h.rlt g k hg
    unfold ownC
    rw [if_neg (by omega), if_neg (by omega), if_neg (by omega), if_neg (fun e => by have := b5 g e; omega), hg]
  refine ⟨⟨tb2, lb2, sb2, _, m2, s2, l0, ⟨h.bk, ⟨O2, h.tab, fun g hg => ?_⟩, h.old.nq, h.old.wf, h.ml, ⟨h.mn.mono hlen, fun k => ?_, fun k hk => ?_⟩, ?_, ?_, ?_, fun g k hg => (hO g k hg).2, fun g hg => ⟨?_, ?_⟩, h.old.iw, h.old.ln, h.old.ms, h.old.lb64⟩, fun g => Iff.rfl⟩, fun g hg => ?_⟩
  · unfold ownC
    obtain ⟨e1, e2, e3⟩ := h.cps.neO g hg
    rw [if_neg e1, if_neg e2, if_neg e3, if_pos hg]
  · rw [h.has, ← h.old.sv.has k, Bool.eq_iff_iff, decide_eq_true_eq]
    exact hmem k
  · have hk2 : k ∈ ks := by rw [hmem, h.old.sv.has]; exact decide_eq_true hk
    obtain ⟨r1, r2⟩ := h.rows k hk2
    exact ⟨r1, fun g hg => hrow g _ (r2 g hg)⟩
  · unfold ownC; rw [if_pos rfl]
  · unfold ownC; rw [if_neg (fun e => k1 e.symm), if_pos rfl]
  · unfold ownC; rw [if_neg (fun e => k2 e.symm), if_neg (fun e => k3 e.symm), if_pos rfl]
  · cases ho : ownC c lb2 sb2 O2 rw_ g with
    | none => rfl
    | some k => have := (hO g k ho).1; have := hst g (.inr hg); omega
  · have := hst g (.inr hg); have := h.bel.size; omega
  · cases ho : ownC c lb2 sb2 O2 rw_ g with
    | none => exact absurd ho hg
    | some k => exact (hO g k ho).1
end
/-- What Copy returns. -/
def RCopP (w : World) (most seed R : Int) (n : Nat) (Rd : Nat → Prop) (d : Dx) (e : Ending) (w' : World) : Prop :=
  ∃ c O', e = .returned (.pointer (some ⟨c, 0, none⟩)) ∧ Ri w' c most seed R n O' Rd d ∧ (∀ g, O' g → w.heap.size ≤ g) ∧ Below w.heap.size w w'
set_option maxHeartbeats 8000000 in
set_option maxRecDepth 100000 in
theorem rcopy_raw {w : World} {x tb lb sb : Nat} {most seed R : Int} {n : Nat} {own : Nat → Option Nat} {Rd : Nat → Prop} {lm : List (Nat × (Slc × Slc))} {sm : List (Nat × Slc)} {l0 : Nms} {d : Dx} (h : Ry w x tb lb sb most seed R n own Rd lm sm l0 d) (hn : n ≤ 100000) :
    Calls Tryz.prog 48 #[.pointer (some ⟨x, 0, none⟩)] w (RCopP w most seed R n Rd d) := by
  obtain ⟨c0, c1, c2, c3, c4, c5⟩ := h.cells
  have HN := Lib.hid (rvnone_no c0)
  obtain ⟨Ot, htab, hot⟩ := h.tab
  have HCP : Hid (∀ w', Below w.heap.size w w' → Calls Tryz.prog 69 #[.pointer (some ⟨tb, 0, none⟩)] w' fun e w2 => ∃ b O, e = .returned (.pointer (some ⟨b, 0, none⟩)) ∧ Tab w2 b O most seed l0 ∧ (∀ g, O g → w'.heap.size ≤ g) ∧ Below w'.heap.size w' w2 ∧ Below w.heap.size w w2) := fun w' hb => by
    refine (copy_any (htab.below hb) h.ms.1).mono ?_
    rintro e w2 ⟨b, O, rfl, h1, h2, h3⟩
    exact ⟨b, O, rfl, h1, h2, h3, hb.trans (h3.mono hb.size)⟩
  have HR := Lib.hid h
  have hmm := @run_makeMap Tryz.prog
  obtain ⟨la, hla⟩ : ∃ la, lastE d.all = la := ⟨_, rfl⟩
  obtain ⟨nsl, hnsl⟩ : ∃ nsl : Int, (d.sl.length : Int) = nsl := ⟨_, rfl⟩
  obtain ⟨nwr, hnwr⟩ : ∃ nwr : Int, (wrongX d.all d.sl : Int) = nwr := ⟨_, rfl⟩
  have HLA := Lib.hid hla
  have HNS := Lib.hid hnsl
  have HNW := Lib.hid hnwr
  have HCELL : Hid (∀ w2, Below w.heap.size w w2 → w2.cell? ⟨x, 0, none⟩ = some (.pointer (some ⟨tb, 0, none⟩)) ∧ w2.cell? ⟨x, 1, none⟩ = some (.int .u64 (la : Int)) ∧ w2.cell? ⟨x, 2, none⟩ = some (.map (some lb)) ∧ w2.cell? ⟨x, 3, none⟩ = some (.map (some sb)) ∧ w2.cell? ⟨x, 4, none⟩ = some (.int .i64 nsl) ∧ w2.cell? ⟨x, 5, none⟩ = some (.int .i64 nwr)) := fun w2 hb => by
    have h1 := (h.below hb).cells
    rw [hla, hnsl, hnwr] at h1
    exact h1
  clear hla hnsl hnwr h htab c0 c1 c2 c3 c4 c5
  obtain ⟨c0, c1, c2, c3, c4, c5⟩ := HCELL.out w (Below.refl _ _)
  go_enter Tryz.func48, Tryz.ntmps48
  go_upto_region 3 with (go_at_call 47; refine HN.out.mono ?_; rintro e w1 ⟨rfl, rfl⟩)
  go_cut [3] (fun s3 wx => ∃ c tb2 lb2 sb2 Ot2, s3 = .pointer (some ⟨c, 0, none⟩) ∧ Cp0 w wx most seed la l0 nsl nwr c tb2 lb2 sb2 Ot2)
  case first =>
    go_region_held3 (fun w' => w'.cell? ⟨x, 0, none⟩ = some (.pointer (some ⟨tb, 0, none⟩)) ∧ w'.cell? ⟨x, 1, none⟩ = some (.int .u64 (la : Int)) ∧ w'.cell? ⟨x, 4, none⟩ = some (.int .i64 nsl) ∧ w'.cell? ⟨x, 5, none⟩ = some (.int .i64 nwr)) (go_keep) ((go_at_call 69; refine (HCP.out _ (by first | exact (Below.refl _ _).drew | exact ((Below.refl _ _).alloc (Nat.le_refl _) _).drew | exact (((Below.refl _ _).alloc (Nat.le_refl _) _).alloc (by simp) _).drew)).mono ?_; rintro e w2 ⟨tb2, O2, rfl, htab2, hO2, hb2, hbw⟩; obtain ⟨k0, k1, k2, k3, k4, k5⟩ := HCELL.out w2 hbw))
    all_goals
      go_wp2_with fail
      go_meet
      first
        | exact ⟨_, _, _, _, _, rfl, cp0_A hbw htab2 hO2 (.inl ⟨rfl, rfl⟩)⟩
        | exact ⟨_, _, _, _, _, rfl, cp0_A hbw htab2 hO2 (.inr ⟨rfl, rfl⟩)⟩
        | exact ⟨_, _, _, _, _, rfl, cp0_B hbw hb2 htab2 hO2 (.inl ⟨rfl, rfl⟩)⟩
        | exact ⟨_, _, _, _, _, rfl, cp0_B hbw hb2 htab2 hO2 (.inr ⟨rfl, rfl⟩)⟩
        | exact ⟨_, _, _, _, _, rfl, cp0_C hbw hb2 htab2 hO2 (.inl ⟨rfl, rfl⟩)⟩
        | exact ⟨_, _, _, _, _, rfl, cp0_C hbw hb2 htab2 hO2 (.inr ⟨rfl, rfl⟩)⟩
  case rest =>
    obtain ⟨c, tb2, lb2, sb2, O2, rfl, h0⟩ := hcut
    have hlive : ∀ k v, (k, v) ∈ lm → k ≤ 18446744073709551615 := fun k v hkv => by
      have h1 : mhas lm k = true := mhas_iff.2 (List.mem_map.2 ⟨_, hkv, rfl⟩)
      rw [HR.out.lv.has] at h1
      obtain ⟨e, he, h2, -⟩ := liveE_iff.1 h1
      have := HR.out.lb64 e he
      omega
    have hnum : ∀ k v, (k, v) ∈ sm → k < 65536 := fun k v hkv => by
      have h1 : mhas sm k = true := mhas_iff.2 (List.mem_map.2 ⟨_, hkv, rfl⟩)
      rw [HR.out.sv.has, decide_eq_true_eq] at h1
      obtain ⟨u, hu⟩ := List.exists_mem_of_ne_nil _ h1
      have h2 := HR.out.iw.nlt _ (ofX_mem.1 hu)
      have := HR.out.ms.2
      simp only at h2
      omega
    have HLV := Lib.hid hlive
    have HNU := Lib.hid hnum
    have CY := Lib.hid (⟨HR.out.below h0.bel, h0.bk, h0.tab, h0.ml, h0.mn, fun id => rfl, fun id hid => (by cases hid), h0.bel, ⟨fun g hg => by
      rcases hg with hg | hg
      · cases ho : own g with
        | none => exact absurd ho hg
        | some k => exact HR.out.olt g k ho
      · exact (HR.out.rd g hg).2, h0.new.1, h0.new.2, h0.ne.1, h0.ne.2⟩⟩ : Cp1 w wc x tb lb sb most seed R n own Rd lm sm l0 d la nsl nwr c tb2 lb2 sb2 O2 [] [])
    have HAP := Lib.hid (HR.out.lv.mp.apart Tryz.underlying22)
    have HAQ := Lib.hid (HR.out.sv.mp.apart Tryz.underlying3)
    have HSZ := Lib.hid (show lm.length ≤ n ∧ sm.length ≤ n from ⟨HR.out.lv.mp.size, HR.out.sv.mp.size⟩)
    obtain ⟨q0, q1, q2, q3, q4, q5⟩ := HCELL.out wc h0.bel
    clear h0 hlive hnum c0 c1 c2 c3 c4 c5 HCP hmm hot HN
    have HM := Lib.hid CY.out.old.lv.mp.1
    go_wp2_with (first
      | (at_range; refine wpList_range_own _ rfl _ 60 rfl 22 112 (int_keyed Tryz.underlying22) Tryz.underlying60 (Rv entV (fun _ => True)) lb n _ rfl (HM.out) ?_; intro w0 hrg0 hg0 hs0)
      | go_in)
    have hbW0 : Below wc.heap.size wc w0 := ⟨hg0.os, hg0.tape, hg0.output, hg0.size, fun k hk => hg0.block k hk (by simp)⟩
    obtain ⟨RB, hRB⟩ : ∃ RB, wc.heap.size = RB := ⟨_, rfl⟩
    have HRBF : Hid (w.heap.size ≤ RB ∧ RB ≠ c ∧ RB ≠ lb2 ∧ RB ≠ sb2 ∧ ¬ O2 RB) := by
      have h1 := CY.out.bk.lt
      have h2 := CY.out.ml.lt
      have h3 := CY.out.mn.lt
      have h4 := CY.out.bel.size
      exact ⟨by omega, by omega, by omega, by omega, fun h => by have := CY.out.tab.lt h; omega⟩
    have CY0 := Lib.hid (CY.out.below hbW0)
    rw [hRB] at hrg0 ⊢
    have HRG0 := Lib.hid hrg0
    clear hRB hg0 hs0 hrg0 hbW0 CY q0 q1 q2 q3 q4 q5 HM
    go_frame
    go_loopw [] (fun wr => ∃ (left : Lit → Bool) (cnt : Nat) (ks : List Nat) (m2 : List (Nat × (Slc × Slc))), wr.ranges Tryz.prog 22 (Rv entV (fun _ => True)) lb RB n (liftM entV .u64 lm) left cnt ∧ ks.Perm ((doneL .u64 left lm).map (·.1)) ∧ Cp1 w wr x tb lb sb most seed R n own Rd lm sm l0 d la nsl nwr c tb2 lb2 sb2 O2 ks m2)
      (fun wr => wr.rangeLeft lb RB)
    case atStart => exact ⟨_, _, [], _, HRG0.out, by rw [doneL_start]; exact List.Perm.refl _, CY0.out⟩
    case round =>
      clear CY0 HRG0
      obtain ⟨left, cnt, ks, m2, hrg, hpm, hcy⟩ := hrel
      have HRG := Lib.hid hrg
      have HPM := Lib.hid hpm
      have CY := Lib.hid hcy
      clear hrg hpm hcy
      go_wp2_with (first
        | (at_next; refine wpList_next_v (val := entV) (q := .u64) (w := wr) rfl _ rfl Tryz.underlying22 RB left cnt entZ rfl HRG.out HAP.out entV_inj ?_ ?_)
        | go_in)
      · intro hdone
        obtain ⟨B, hB⟩ : ∃ B, wr.heap.size = B := ⟨_, rfl⟩
        have CZ := Lib.hid (CY.out.done (B := B) (by have := HPM.out; rw [hdone] at this; exact this) hB.symm)
        obtain ⟨q0, q1, q2, q3, q4, q5⟩ := HCELL.out wr CY.out.bel
        have HM := Lib.hid CZ.out.old.sv.mp.1
        clear hdone HPM HRG CY
        go_wp2_with (first
          | (at_range; refine wpList_range_own _ rfl _ 61 rfl 3 66 (int_keyed Tryz.underlying3) Tryz.underlying61 (Rv slcV (fun _ => True)) sb n _ rfl (HM.out) ?_; intro w0 hrg0 hg0 hs0)
          | go_in)
        have hbW0 : Below wr.heap.size wr w0 := ⟨hg0.os, hg0.tape, hg0.output, hg0.size, fun k hk => hg0.block k hk (by simp)⟩
        have CZ0 := Lib.hid (CZ.out.below hbW0)
        have HB0 : Hid (B < w0.heap.size) := by unfold Hid; omega
        rw [hB] at hrg0 ⊢
        have HRG0 := Lib.hid hrg0
        clear hg0 hs0 hrg0 hbW0 CZ q0 q1 q2 q3 q4 q5 HM hB
        go_frame
        go_loopw [] (fun wx => ∃ (left : Lit → Bool) (cnt : Nat) (ks : List Nat) (s2 : List (Nat × Slc)) (rw_ : Nat → Option Nat), wx.ranges Tryz.prog 3 (Rv slcV (fun _ => True)) sb B n (liftM slcV .i64 sm) left cnt ∧ ks.Perm ((doneL .i64 left sm).map (·.1)) ∧ Cp2 w wx x tb lb sb most seed R n own Rd lm sm l0 d la nsl nwr c tb2 lb2 sb2 O2 m2 B ks s2 rw_ ∧ rw_ B = none ∧ B < wx.heap.size)
          (fun wx => wx.rangeLeft sb B)
        case atStart => exact ⟨_, _, [], _, _, HRG0.out, by rw [doneL_start]; exact List.Perm.refl _, CZ0.out, rfl, HB0.out⟩
        case round =>
          clear CZ0 HRG0 HB0
          obtain ⟨left3, cnt3, ks3, s3, rw_, hrg, hpm, hcz, hrb, hbl⟩ := hrel
          have HRG := Lib.hid hrg
          have HPM := Lib.hid hpm
          have CZ := Lib.hid hcz
          have HRB := Lib.hid hrb
          have HBL := Lib.hid hbl
          clear hrg hpm hcz hrb hbl
          go_wp2_with (first
            | (at_next; refine wpList_next_v (val := slcV) (q := .i64) (w := wr) rfl _ rfl Tryz.underlying3 B left3 cnt3 slcZ rfl HRG.out HAQ.out slcV_inj ?_ ?_)
            | go_in)
          · intro hdone
            have hp := HPM.out
            rw [hdone] at hp
            obtain ⟨r1, r2⟩ := CZ.out.done hp HLA.out HNS.out HNW.out
            have R1 := Lib.hid r1
            have R2 := Lib.hid r2
            clear hdone hp r1 r2
            go_wp2_with fail
            go_ret
            exact ⟨c, _, rfl, R1.out, R2.out, CZ.out.bel⟩
          · intro k p1 z1 y1 w1 left1 cnt1 hmem hperm hrg1 hlt hg1 hs1 hen
            have ho1 : Only (fun g => g = B) wr w1 := Only.of_grown (S := fun g => g = B) hg1 rfl
            have C1 := Lib.hid (CZ.out.only ho1 (fun g hg => by rw [hg]; exact ⟨Nat.le_refl _, HRB.out⟩))
            have hkv : mget slcZ sm k = (p1, z1, y1) := mget_mem HAQ.out hmem
            have hwf := wf_i64 (t := k) (by have := HNU.out k _ hmem; omega)
            have HR1 := Lib.hid hrg1
            have HP1 : Hid ((ks3 ++ [k]).Perm ((doneL .i64 left1 sm).map (·.1))) := by
              have h5 := hperm.map (·.1)
              rw [List.map_cons] at h5
              exact (List.perm_append_comm.trans (List.Perm.cons k HPM.out)).trans h5.symm
            have hkn : ks3.length + 1 ≤ n := by
              have h5 := HP1.out.length_eq
              rw [List.length_append, List.length_map] at h5
              have h6 : (doneL IntKind.i64 left1 sm).length ≤ sm.length := List.length_filter_le _ _
              have : [k].length = 1 := rfl
              have := HSZ.out.2
              omega
            have HKS : Hid (¬ k ∈ ks3) := fun hk => by
              have hnd : ((doneL .i64 left1 sm).map (·.1)).Nodup := (List.Sublist.map _ (List.filter_sublist)).nodup HAQ.out
              have h5 := (HP1.out.nodup_iff).2 hnd
              exact (List.nodup_append.1 h5).2.2 k hk k (List.mem_singleton.2 rfl) rfl
            have hml : ks3.length < maxLen := by unfold maxLen; omega
            have HLT := Lib.hid hlt
            have HLE := Lib.hid (HRG.out.left_eq)
            have hne : ofX d.sl k ≠ [] := by
              have h1 : mhas sm k = true := mhas_iff.2 (List.mem_map.2 ⟨_, hmem, rfl⟩)
              rw [C1.out.old.sv.has, decide_eq_true_eq] at h1
              exact h1
            have hrow := (C1.out.old.sv.at_ k hne).1
            rw [hkv] at hrow
            have hdr : Below w1.heap.size w1 w1.drew := (Below.refl _ _).drew
            have hll : (ofX d.sl k).length ≤ 1000000 := by have := ofX_len d.sl k; have := C1.out.old.ln.1; omega
            have hCL := cloneU_any _ _ 0 w1.drew (ownsRow_below hrow hdr) hll
            unfold NewRow at hCL
            rw [List.length_map] at hCL
            obtain ⟨T, hT⟩ : ∃ T, (ofX d.sl k).length = T := ⟨_, rfl⟩
            have HT := Lib.hid hT
            rw [hT] at hCL
            dsimp only [slcV] at hCL hen ⊢
            have HCL := Lib.hid hCL
            have D1 := Lib.hid (C1.out.below hdr)
            have HSI : Hid (B < w1.heap.size) := by have := HBL.out; have := ho1.size; unfold Hid; omega
            have e3 := Blk.cell C1.out.bk 3
            have e3' : w1.drew.cell? ⟨c, 3, none⟩ = _ := Blk.cell C1.out.bk 3
            simp only [List.getElem?_toArray, List.getElem?_cons_zero, List.getElem?_cons_succ] at e3 e3'
            clear hmem hperm hrg1 hlt hg1 hs1 ho1 hkv HPM HRG CZ hne hrow hCL hdr hT hll
            go_wp2_with fail
            go_region_held3 (fun w' => w'.cell? ⟨c, 3, none⟩ = some (.map (some sb2))) (go_keep) ((go_at_call 52; refine HCL.out.mono ?_; rintro e w4 ⟨v4, rfl, hv4, b4⟩; obtain ⟨p4, k4, rfl⟩ := owns_form hv4; have D4 := Lib.hid (D1.out.below b4); have q43 := Blk.cell D4.out.bk 3; obtain ⟨w7, hrun0, m7, g7⟩ := D4.out.mn.update Tryz.underlying3 Tryz.underlying61 hml (a := ((p4, T, k4) : Slc)) trivial (s := k) hwf; have hrun : Sem.run Tryz.prog (Instr.mapUpdate 61 (.map (some sb2)) (.int .i64 (k : Int)) (.slice p4 T k4)) w4 = .ok () w7 := hrun0; have ho7 : Only (fun g => g = sb2) w4 w7 := Only.of_grown (S := fun g => g = sb2) g7 rfl; have q73 := Blk.cell (D4.out.bk.only ho7 D4.out.cps.ne.2.1) 3; simp only [List.getElem?_toArray, List.getElem?_cons_zero, List.getElem?_cons_succ] at q43 q73; have M7 := Lib.hid m7; have G7 := Lib.hid g7; have HV4 := Lib.hid hv4; have B4 := Lib.hid b4; clear hv4 b4 m7 g7 ho7 hrun0))
            clear hrun q43 q73 e3 e3'
            have hv4 := HV4.out
            have hb4 : w1.heap.size ≤ w4.heap.size := B4.out.size
            have hC7 := D4.out.put (lo := w1.heap.size) (hi := w4.heap.size) (v := (p4, T, k4)) HKS.out (by have := HSI.out; omega) (Nat.le_refl _) (fun g t hg => (C1.out.rlt g t hg).2) (by rw [HT.out]; exact ownsRow_low hv4 (Nat.zero_le _)) (fun g hg => hv4.lt g hg) G7.out M7.out
            have hgr : w1.grownBy w7 (some sb2) := only_trans (only_of_below ((Below.refl w1.heap.size w1).drew.trans B4.out) (some sb2)) G7.out
            have HR7 := Lib.hid (HR1.out.kept hgr (by
              intro e
              have := Option.some.inj e
              have h1 := C1.out.cps.st sb (.inl (by rw [C1.out.old.os]; simp))
              have h2 := C1.out.cps.new.2.2
              omega) (by intro e; have := Option.some.inj e; have := C1.out.bl.2.2.1; omega))
            have C7 := Lib.hid hC7
            have HB7 : Hid (B < w7.heap.size) := by have := HSI.out; have := G7.out.size; unfold Hid; omega
            have HRB7 : Hid (rwP rw_ w1.heap.size w4.heap.size k B = none) := by
              unfold Hid rwP
              rw [if_neg (by have := HSI.out; omega)]
              exact HRB.out
            clear hC7 hgr hv4
            go_wp2_with fail
            go_roundw
            case rel => exact ⟨left1, cnt1, ks3 ++ [k], _, _, HR7.out, HP1.out, C7.out, HRB7.out, HB7.out⟩
            case measure => rw [HR7.out.left_eq, HLE.out]; exact HLT.out
      · intro k p1 z1 y1 p2 z2 y2 w1 left1 cnt1 hmem hperm hrg1 hlt hg1 hs1 hen
        have ho1 : Only (fun g => g = RB) wr w1 := Only.of_grown (S := fun g => g = RB) hg1 rfl
        have C1 := Lib.hid (CY.out.only ho1 (fun g hg => by rw [hg]; exact HRBF.out))
        have hkv : mget entZ lm k = ((p1, z1, y1), (p2, z2, y2)) := mget_mem HAP.out hmem
        have HKV := Lib.hid hkv
        have hwf := wf_u64 (HLV.out k _ hmem)
        have HR1 := Lib.hid hrg1
        have HP1 : Hid ((ks ++ [k]).Perm ((doneL .u64 left1 lm).map (·.1))) := by
          have h5 := hperm.map (·.1)
          rw [List.map_cons] at h5
          exact (List.perm_append_comm.trans (List.Perm.cons k HPM.out)).trans h5.symm
        have hkn : ks.length + 1 ≤ n := by
          have h5 := HP1.out.length_eq
          rw [List.length_append, List.length_map] at h5
          have h6 : (doneL IntKind.u64 left1 lm).length ≤ lm.length := List.length_filter_le _ _
          have : [k].length = 1 := rfl
          have := HSZ.out.1
          omega
        have hml : ks.length < maxLen := by unfold maxLen; omega
        have HLT := Lib.hid hlt
        have HLE := Lib.hid (HRG.out.left_eq)
        have hz2 : ∀ X : World, (zeroValue 112).run Tryz.prog X = .ok (.agg #[.slice none 0 0, .slice none 0 0]) X := ent_zero
        have hal : Below w1.heap.size w1 ((w1.alloc (.cells #[.slice p1 z1 y1, .slice p2 z2 y2] 112)).drew) := ((Below.refl _ _).alloc (Nat.le_refl _) _).drew
        have D1 := Lib.hid (C1.out.below hal)
        obtain ⟨w7, hrun0, m7, g7⟩ := D1.out.ml.update Tryz.underlying22 Tryz.underlying60 hml (a := (((p1, z1, y1), (p2, z2, y2)) : Slc × Slc)) trivial (s := k) hwf
        have hrun : Sem.run Tryz.prog (Instr.mapUpdate 60 (.map (some lb2)) (.int .u64 (k : Int)) (.agg #[.slice p1 z1 y1, .slice p2 z2 y2])) ((w1.alloc (.cells #[.slice p1 z1 y1, .slice p2 z2 y2] 112)).drew) = .ok () w7 := hrun0
        have C7 := Lib.hid (D1.out.put HKV.out g7 m7)
        have hgr : w1.grownBy w7 (some lb2) := only_trans (only_of_below hal (some lb2)) g7
        have HR7 := Lib.hid (HR1.out.kept hgr (by
          intro e
          have := Option.some.inj e
          have h1 := C1.out.cps.st lb (.inl (by rw [C1.out.old.ol]; simp))
          have h2 := C1.out.cps.new.2.1
          omega) (by intro e; exact HRBF.out.2.2.1 (Option.some.inj e)))
        have e2 := Blk.cell D1.out.bk 2
        have e2' : (w1.alloc (.cells #[.slice p1 z1 y1, .slice p2 z2 y2] 112)).cell? ⟨c, 2, none⟩ = _ := Blk.cell D1.out.bk 2
        have hbx : Blk (w1.alloc (.cells #[.slice p1 z1 y1, .slice p2 z2 y2] 112)) w1.heap.size 112 #[.slice p1 z1 y1, .slice p2 z2 y2] := Blk.new _ _ _
        have b0 := Blk.cell hbx 0
        have b1 := Blk.cell hbx 1
        have b0' : (w1.alloc (.cells #[.slice p1 z1 y1, .slice p2 z2 y2] 112)).drew.cell? ⟨w1.heap.size, 0, none⟩ = _ := Blk.cell hbx 0
        have b1' : (w1.alloc (.cells #[.slice p1 z1 y1, .slice p2 z2 y2] 112)).drew.cell? ⟨w1.heap.size, 1, none⟩ = _ := Blk.cell hbx 1
        simp only [List.getElem?_toArray, List.getElem?_cons_zero, List.getElem?_cons_succ] at e2 e2' b0 b1 b0' b1'
        dsimp only [entV, slcV] at hen ⊢
        clear hmem hperm hrg1 hlt hg1 hs1 ho1 hkv hrun0 m7 g7 hgr hal hbx HPM HRG CY C1 HR1
        go_wp2_with fail
        go_region
        go_wp2_with fail
        go_roundw
        case rel => exact ⟨left1, cnt1, ks ++ [k], _, HR7.out, HP1.out, C7.out⟩
        case measure => rw [HR7.out.left_eq, HLE.out]; exact HLT.out
theorem rcopy_any {w : World} {x : Nat} {most seed R : Int} {n : Nat} {O Rd : Nat → Prop} {d : Dx} (h : Ri w x most seed R n O Rd d) (hn : n ≤ 100000) :
    Calls Tryz.prog 48 #[.pointer (some ⟨x, 0, none⟩)] w (RCopP w most seed R n Rd d) := by
  obtain ⟨tb, lb, sb, own, lm, sm, l0, h1, -⟩ := h
  exact rcopy_raw h1 hn
end Go.Proofs.YtfpkeinknhijaaaGreat
