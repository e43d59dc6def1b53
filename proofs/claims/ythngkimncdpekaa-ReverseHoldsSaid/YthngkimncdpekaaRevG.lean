/- An index of entries: what Add is made of. -/
import Derived.Test.YthngkimncdpekaaRevF
import Derived.Test.YthngkimncdpekaaEnt
import Derived.Deep.DeepCutAuto
namespace Go.Proofs.Ythngkimncdpekaa
set_option linter.unusedVariables false
open Go.RowKit Go.Maps Go.Sort

theorem tagOk_valid (x : List UInt8) : tagOk x = validB x := by
  unfold tagOk validB
  rw [Bool.eq_iff_iff, Bool.and_eq_true, decide_eq_true_eq, decide_eq_true_eq, decide_eq_true_eq]
theorem kIns_last : ∀ {l : List (List UInt8)} {x : List UInt8}, (∀ y ∈ l, y < x) → kIns x l = l ++ [x]
  | [], _, _ => rfl
  | y :: r, x, h => by
    unfold kIns
    rw [if_pos (h y List.mem_cons_self), kIns_last (fun z hz => h z (List.mem_cons_of_mem _ hz))]
    rfl
theorem kUniq_same {l : List (List UInt8)} (h : l.Pairwise (· < ·)) : kUniq l = l := by
  have : ∀ (n : Nat) (l : List (List UInt8)), l.length = n → l.Pairwise (· < ·) → kUniq l = l := by
    intro n
    induction n with
    | zero => intro l hl _; rw [List.eq_nil_of_length_eq_zero hl]; rfl
    | succ n ih =>
      intro l hl hp
      obtain ⟨r, x, rfl⟩ : ∃ r x, l = r ++ [x] := by
        have hne : l ≠ [] := fun e => by rw [e] at hl; cases hl
        exact ⟨l.dropLast, l.getLast hne, (List.dropLast_concat_getLast hne).symm⟩
      rw [List.pairwise_append] at hp
      rw [kUniq_snoc, ih r (by simpa using hl) hp.1, kIns_last (fun y hy => hp.2.2 y hy x (by simp))]
  exact this _ l rfl h
/-- The program's way to see whether tags are in order. -/
theorem tagsB_iff (ts : List (List UInt8)) : tagsB ts = true ↔ (kTags ts).2 = 0 ∧ (kTags ts).1 = ts := by
  unfold tagsB kTags
  have hall : ts.all tagOk = ts.all validB := by congr 1; funext x; exact tagOk_valid x
  rw [hall, Bool.and_eq_true, Bool.and_eq_true, decide_eq_true_eq, decide_eq_true_eq]
  constructor
  · rintro ⟨⟨h1, h2⟩, h3⟩
    rw [if_pos h1, kUniq_same h2, if_pos h3]
    exact ⟨rfl, rfl⟩
  · by_cases h1 : ts.all validB = true
    · rw [if_pos h1]
      split
      · rename_i h2
        rintro ⟨_, h3⟩
        simp only at h3
        have := kUniq_sorted ts
        rw [h3] at this h2
        exact ⟨⟨h1, this⟩, h2⟩
      · rintro ⟨h, _⟩; cases h
    · rw [if_neg h1]
      rintro ⟨h, _⟩; cases h
/-- Two lists of strings that read: the program's Equal. -/
theorem equalS_any (u v : Value) (l m : List (List UInt8)) (w : World) (hu : Reads w u (l.map encStr)) (hv : Reads w v (m.map encStr)) (hlm : l ≠ [] → m ≠ []) (hl : l.length ≤ 1000000) (hm : m.length ≤ 1000000) :
    Calls Try.prog 57 #[u, v] w fun e w' => e = .returned (.bool (decide (l = m))) ∧ Below w.heap.size w w' := by
  obtain ⟨p, cp, rfl, _, hu⟩ := hu
  obtain ⟨q, cq, rfl, _, hv⟩ := hv
  rw [List.length_map] at hu hv ⊢
  rw [List.length_map]
  rcases Nat.eq_zero_or_pos l.length with h0 | h0
  · have hl0 : l = [] := List.eq_nil_of_length_eq_zero h0
    subst hl0
    refine (Try.slices_Equal_string_empty p q cp m.length cq w (by omega)).mono ?_
    rintro e w' ⟨rfl, rfl⟩
    refine ⟨?_, Below.refl _ _⟩
    congr 2
    rw [Bool.eq_iff_iff, decide_eq_true_eq, decide_eq_true_eq]
    constructor
    · intro h; exact (List.eq_nil_of_length_eq_zero h).symm
    · intro h; rw [← h]; rfl
  · have hm0 := List.length_pos_iff.2 (hlm (List.length_pos_iff.1 h0))
    rcases hu with h1 | ⟨b1, o1, rfl, hb1, _, hc1⟩
    · omega
    rcases hv with h1 | ⟨b2, o2, rfl, hb2, _, hc2⟩
    · omega
    have hget : ∀ (z : List (List UInt8)) (j : Nat) (hj : j < (z.map fun x => (⟨x.toArray⟩ : ByteArray)).length), (z.map encStr)[j]? = some (.string ((z.map fun x => (⟨x.toArray⟩ : ByteArray)).getD j ByteArray.empty)) := by
      intro z j hj
      rw [List.length_map] at hj
      rw [List.getElem?_map, List.getElem?_eq_getElem hj, List.getD_eq_getElem?_getD, List.getElem?_map, List.getElem?_eq_getElem hj]
      rfl
    refine (Try.slices_Equal_string b1 o1 l.length cp b2 o2 m.length cq (l.map fun x => ⟨x.toArray⟩) (m.map fun x => ⟨x.toArray⟩) w (by simp) (by simp) (by omega) (by omega) (fun j hj => hc1 j _ (hget l j hj)) (fun j hj => hc2 j _ (hget m j hj))).mono ?_
    rintro e w' ⟨rfl, qq, rfl⟩
    refine ⟨?_, below_drewN (Below.refl _ _) _⟩
    congr 2
    rw [List.take_of_length_le (by simp), List.take_of_length_le (by simp), Bool.eq_iff_iff, decide_eq_true_eq, decide_eq_true_eq]
    constructor
    · intro h
      have := congrArg (List.map (fun b : ByteArray => b.data.toList)) h
      simpa [List.map_map, Function.comp_def] using this
    · intro h; rw [h]
section
variable {w w' : World} {x tb lb sb : Nat} {most seed R : Int} {n : Nat} {own : Nat → Option Nat} {Rd : Nat → Prop} {lm : List (Nat × (Slc × Slc))} {sm : List (Nat × Slc)} {l0 : Nms} {d : Dx}
variable {A : List En} {S : List (Nat × Nat)} {k : Nat} {Ot : Nat → Prop} {li : Nms} {q : Option Addr} {c : Nat} {fr : List Nat} {wr wr' : World}
theorem Dst.add (h : Dst w wr x tb lb sb most seed R own A S k Ot li q c fr) (hR : 0 ≤ R) {O' : Nat → Prop} {s : List UInt8} (ht : Tab wr' tb O' most seed (addM most li s).1) (ho : Only Ot wr wr') (hn : ∀ g, O' g → Ot g ∨ wr.heap.size ≤ g) : Dst w wr' x tb lb sb most seed (R + 1) own A S k O' (addM most li s).1 q c fr := by
  have hs := h.only.size
  refine ⟨h.bk.only ho h.nx, ht, fun g hg => ?_, ownsRow_only h.row ho h.off, fun g hg hO => ?_, ?_, h.wf.add (by omega) s, h.ox, h.xl⟩
  · rcases hn g hg with h1 | h1
    · exact h.ot g h1
    · exact .inr (by omega)
  · rcases hn g hO with h1 | h1
    · exact h.off g hg h1
    · have := (h.row.lt g hg).2; omega
  · exact h.only.trans ho (fun g hg => by
      rcases h.ot g hg with h1 | h1
      · exact .inl (.inr h1)
      · exact .inr h1)
/-- The row of the tags beside the table and the row of the numbers. -/
structure Tgs (w wr : World) (Ot : Nat → Prop) (qv tv : Value) (ts : List (List UInt8)) : Prop where
  row : wr.ownsRow w.heap.size 9 1 tv ts.length (ts.map encStr)
  off : ∀ g, tv.ownBlock = some g → ¬ Ot g ∧ qv.ownBlock ≠ some g
theorem Tgs.turn {qv tv : Value} {ts : List (List UInt8)} (h : Tgs w wr Ot qv tv ts) {O' : Nat → Prop} (ho : Only Ot wr wr') (hn : ∀ g, O' g → Ot g ∨ wr.heap.size ≤ g) : Tgs w wr' O' qv tv ts :=
  ⟨ownsRow_only h.row ho (fun g hg => (h.off g hg).1), fun g hg => ⟨fun hO => by
    rcases hn g hO with h1 | h1
    · exact (h.off g hg).1 h1
    · have := (h.row.lt g hg).2; omega, (h.off g hg).2⟩⟩
theorem Tgs.app {qv tv qv' : Value} {ts : List (List UInt8)} (h : Tgs w wr Ot qv tv ts) {o : Obj} (hg : (wr.alloc o).grownBy wr' qv.ownBlock) (hq : ∀ g, qv'.ownBlock = some g → qv.ownBlock = some g ∨ wr.heap.size ≤ g) : Tgs w wr' Ot qv' tv ts := by
  have ho : Only (fun g => qv.ownBlock = some g) wr wr' := (((Only.refl (fun g => qv.ownBlock = some g) wr).alloc o).trans (⟨hg.os, hg.tape, hg.output, hg.size, fun i hi hn => hg.block i hi (fun e => hn e.symm)⟩ : Only (fun g => qv.ownBlock = some g) _ _) (fun g hg => .inl hg))
  refine ⟨ownsRow_only h.row ho (fun g hg => (h.off g hg).2), fun g hg => ⟨(h.off g hg).1, fun e => ?_⟩⟩
  rcases hq g e with h1 | h1
  · exact (h.off g hg).2 h1
  · have := (h.row.lt g hg).2; omega
theorem Tgs.below {qv tv : Value} {ts : List (List UInt8)} (h : Tgs w wr Ot qv tv ts) (hb : Below wr.heap.size wr wr') : Tgs w wr' Ot qv tv ts := ⟨ownsRow_below h.row hb, h.off⟩
theorem adds_rest {most : Int} {l0 li : Nms} {ts r : List (List UInt8)} {ns : List Nat} {s : List UInt8} (h : addsM most l0 ts = ((addsM most li (s :: r)).1, ns ++ (addsM most li (s :: r)).2.1, (addsM most li (s :: r)).2.2)) :
    ((addM most li s).2.2 = 0 → addsM most l0 ts = ((addsM most (addM most li s).1 r).1, (ns ++ [(addM most li s).2.1.toNat]) ++ (addsM most (addM most li s).1 r).2.1, (addsM most (addM most li s).1 r).2.2)) ∧ ((addM most li s).2.2 ≠ 0 → addsM most l0 ts = ((addM most li s).1, ns, (addM most li s).2.2)) := by
  rw [h]
  constructor
  · intro he
    conv => lhs; unfold addsM
    rw [if_pos he]
    simp
  · intro he
    conv => lhs; unfold addsM
    rw [if_neg he]
    simp
def AddP_ (w : World) (x : Nat) (most seed R : Int) (n : Nat) (O Rd : Nat → Prop) (r : Dx × List Nat × Int) (e : Ending) (w' : World) : Prop :=
  ∃ v O' Rd', e = .returned (.tuple #[v, .int .i64 r.2.2]) ∧ w'.ownsRow w.heap.size 3 1 v r.2.1.length (numsV r.2.1) ∧ Ri w' x most seed (R + 16) (n + 16) O' Rd' r.1 ∧ Goes w O w' O' ∧ (∀ g, Rd' g → Rd g ∨ w.heap.size ≤ g) ∧ ∀ g, v.ownBlock = some g → ¬ (O' g ∨ Rd' g)
/-- Names are added and taken back: the index is what it was. -/
theorem Ry.back (h : Ry w x tb lb sb most seed R n own Rd lm sm l0 d) (hR : 0 ≤ R) (D : Dst w wr x tb lb sb most seed (R + 16) own d.all d.sl 0 Ot li q c fr) (hq : Nq li d.nm) : Ry wr x tb lb sb most seed (R + 16) n (ownT own Ot) Rd lm sm li d ∧ Only (fun g => own g ≠ none) w wr := by
  have hrd : ∀ g, Rd g → ¬ (own g = some 0 ∨ own g = some 3) := fun g hg hs => by
    have := (h.rd g hg).1
    rcases hs with hs | hs <;> (rw [this] at hs; cases hs)
  refine ⟨⟨by have := D.bk; simpa using this, ⟨Ot, D.tab, fun g hg => ownT_yes hg⟩, hq, D.wf, h.lv.only D.only (fun e => by rw [h.ol] at e; rcases e with e | e <;> (injection e with e; omega)) hrd, ?_, ownT_old D.ot h.ox h.bk.lt, ownT_old D.ot h.ol h.lv.mp.lt, ownT_old D.ot h.os h.sv.mp.lt, fun g k hgk => ?_, fun g hgr => ⟨ownT_none D.ot (h.rd g hgr).1 (h.rd g hgr).2, Nat.lt_of_lt_of_le (h.rd g hgr).2 D.only.size⟩, h.iw.mono (by omega), h.ln, h.ms, h.lb64⟩, D.only.more (fun g hg => .inl (by rcases hg with hg | hg <;> (rw [hg]; simp)))⟩
  · have h5 := h.sv.only D.only (fun e => by rw [h.os] at e; rcases e with e | e <;> (injection e with e; omega)) (fun g k hg e => by rw [hg] at e; rcases e with e | e <;> (injection e with e; omega))
    exact ⟨h5.mp, h5.has, fun k hk => ⟨(h5.at_ k hk).1, fun g hg => ownT_old D.ot ((h5.at_ k hk).2 g hg) (h.olt g _ ((h.sv.at_ k hk).2 g hg))⟩⟩
  · by_cases hO : Ot g
    · exact D.tab.lt hO
    · rw [ownT_no hO] at hgk
      exact Nat.lt_of_lt_of_le (h.olt g k hgk) D.only.size
/-- One more slot of a number: its row has grown, perhaps into a new block. -/
theorem Sv.push {T : List (Nat × Nat)} {o : Obj} {w5 w6 : World} (h : Sv w sb n own sm T) (hos : own sb = some 2) (hap : Apart sm) {k id : Nat} {v : Slc} (holt : ∀ g j, own g = some j → g < w.heap.size) (hsb : sb < w.heap.size)
    (hrow : w5.ownsRow 0 29 1 (slcV v) ((ofX T k).length + 1) (idsV (ofX T k) ++ [.int .u64 (id : Int)])) (hg5 : (w.alloc o).grownBy w5 (slcV (mget slcZ sm k)).ownBlock) (hblk : (slcV v).ownBlock = (slcV (mget slcZ sm k)).ownBlock ∨ (slcV v).ownBlock = some (w.heap.size + 1))
    (hm : MapN w6 sb (n + 1) (mput sm k v)) (hg6 : w5.grownBy w6 (some sb)) :
    ∃ own', (∀ g j, own g = some j → own' g = some j) ∧ (∀ g j, own' g = some j → own g = some j ∨ (g = w.heap.size + 1 ∧ 4 ≤ j)) ∧ (∀ g j, own' g = some j → g < w6.heap.size) ∧ Sv w6 sb (n + 1) own' (mput sm k v) (T ++ [(k, id)]) ∧ Only (fun g => own g = some 2 ∨ ∃ j, own g = some (j + 4)) w w6 := by
  have hold : ∀ g, (slcV (mget slcZ sm k)).ownBlock = some g → own g = some (k + 4) := fun g hg => by
    by_cases hk : ofX T k = []
    · have h1 := h.has k
      rw [hk] at h1
      rw [mget_none (by rw [h1]; rfl)] at hg
      simp [slcZ, Value.ownBlock] at hg
    · exact (h.at_ k hk).2 g hg
  have hsz5 : w.heap.size + 1 ≤ w5.heap.size := by have := hg5.size; simpa using this
  have o5 : Only (fun g => own g = some (k + 4)) w w5 := ((Only.refl (fun g => own g = some (k + 4)) w).alloc o).trans (⟨hg5.os, hg5.tape, hg5.output, hg5.size, fun i hi hn => hg5.block i hi (fun e => hn (hold i e.symm))⟩ : Only (fun g => own g = some (k + 4)) _ _) (fun g hg => .inl hg)
  have o6 : Only (fun g => own g = some 2 ∨ own g = some (k + 4)) w w6 := (o5.more (fun g hg => .inl (.inr hg))).trans (Only.of_grown (S := fun g => own g = some 2 ∨ own g = some (k + 4)) hg6 (.inl hos)) (fun g hg => .inl hg)
  have hof : ∀ j, ofX (T ++ [(k, id)]) j = if j = k then ofX T k ++ [id] else ofX T j := fun j => by
    rw [ofX_app, ofX_cons]
    by_cases e : j = k
    · subst e; rw [if_pos rfl, if_pos rfl]; rfl
    · rw [if_neg (fun h => e h.symm), if_neg e]; simp [ofX]
  have hrow6 : w6.ownsRow 0 29 1 (slcV v) ((ofX T k).length + 1) (idsV (ofX T k) ++ [.int .u64 (id : Int)]) := by
    refine hrow.kept hg6 (.inr (fun e => ?_))
    rcases hblk with h1 | h1
    · have h2 := hold sb (h1.symm.trans e)
      rw [hos] at h2
      injection h2 with h2
      omega
    · have := e.symm.trans h1
      injection this with this
      omega
  have hfin : ∀ own' : Nat → Option Nat, (∀ g j, own g = some j → own' g = some j) → (∀ g, (slcV v).ownBlock = some g → own' g = some (k + 4)) → Sv w6 sb (n + 1) own' (mput sm k v) (T ++ [(k, id)]) := fun own' he hv => by
    refine ⟨hm, fun j => ?_, fun j hj => ?_⟩
    · rw [mhas_put, h.has j, hof j]
      by_cases e : j = k
      · simp [e]
      · simp [e]
    · rw [hof j] at hj ⊢
      by_cases e : j = k
      · subst e
        rw [if_pos rfl, mget_put_same hap]
        refine ⟨?_, hv⟩
        rw [List.length_append]
        unfold idsV
        rw [List.map_append]
        exact hrow6
      · rw [if_neg e] at hj ⊢
        rw [mget_put_other hap e]
        obtain ⟨h1, h2⟩ := h.at_ j hj
        exact ⟨ownsRow_only h1 o6 (fun g hg hs => by have := h2 g hg; rcases hs with hs | hs <;> (rw [this] at hs; injection hs with hs; omega)), fun g hg => he g _ (h2 g hg)⟩
  have o6' : Only (fun g => own g = some 2 ∨ ∃ j, own g = some (j + 4)) w w6 := o6.more (fun g hg => .inl (by rcases hg with hg | hg; exact .inl hg; exact .inr ⟨k, hg⟩))
  have hs6 : w5.heap.size ≤ w6.heap.size := hg6.size
  by_cases hb : (slcV v).ownBlock = some (w.heap.size + 1)
  · refine ⟨fun g => if g = w.heap.size + 1 then some (k + 4) else own g, fun g j hj => ?_, fun g j hj => ?_, fun g j hj => ?_, hfin _ (fun g j hj => ?_) (fun g hg => ?_), o6'⟩
    · have := holt g j hj
      dsimp only
      rw [if_neg (by omega)]; exact hj
    · dsimp only at hj
      split at hj
      · injection hj with hj
        exact .inr ⟨‹_›, by omega⟩
      · exact .inl hj
    · dsimp only at hj
      split at hj
      · have := (hrow.lt _ hb).2; omega
      · have := holt g j hj; omega
    · have := holt g j hj
      rw [if_neg (by omega)]; exact hj
    · rw [hb] at hg
      injection hg with hg
      rw [if_pos hg.symm]
  · have hb2 := hblk.resolve_right hb
    exact ⟨own, fun g j hj => hj, fun g j hj => .inl hj, fun g j hj => by have := holt g j hj; omega, hfin own (fun g j hj => hj) (fun g hg => hold g (hb2.symm.trans hg)), o6'⟩
theorem Sv.slc {T : List (Nat × Nat)} (h : Sv w sb n own sm T) (k : Nat) : w.ownsRow 0 29 1 (slcV (mget slcZ sm k)) (ofX T k).length (idsV (ofX T k)) := by
  by_cases hk : ofX T k = []
  · have h1 := h.has k
    rw [hk] at h1 ⊢
    rw [mget_none (by rw [h1]; rfl)]
    exact World.ownsRow_nil _ _ _ _
  · exact (h.at_ k hk).1
/-- An entry is added: what lies in memory is the document's. -/
theorem Ry.readd (h : Ry w x tb lb sb most seed R n own Rd lm sm l0 d) (hR : 0 ≤ R) {id : Nat} (hid : id ≤ 18446744073709551615) (hlast : lastE d.all < id) {ts : List (List UInt8)} {ns : List Nat} {own1 ownJ : Nat → Option Nat} {smJ : List (Nat × Slc)} {W3 W4 W7 : World} {N cu : Nat} {pu : Option Addr} {lD : Nms}
    (D : Dst w W3 x tb lb sb most seed (R + 16) own d.all d.sl 0 Ot li q c ns) (G : Tgs w W3 Ot (.slice q ns.length c) (.slice pu ts.length cu) ts) (ho1 : own1 = ownT own Ot) (hnq : Nq li lD)
    (hsv : Sv W4 sb (n + 16) ownJ smJ (d.sl ++ ns.map (fun m => (m, id)))) (hJ1 : ∀ g i, own1 g = some i → ownJ g = some i) (hJ2 : ∀ g i, ownJ g = some i → own1 g = some i ∨ (W3.heap.size ≤ g ∧ 4 ≤ i)) (hJ3 : ∀ g i, ownJ g = some i → g < W4.heap.size) (hJo : Only (fun g => own1 g = some 2 ∨ ∃ i, own1 g = some (i + 4)) W3 W4)
    (o7 : Only (fun g => g = x ∨ g = lb) W4 W7) (hb7 : Blk W7 x 74 #[.pointer (some ⟨tb, 0, none⟩), .int .u64 (id : Int), .map (some lb), .map (some sb), .int .i64 ((d.sl ++ ns.map (fun m => (m, id))).length : Int), .int .i64 (wrongX d.all d.sl : Int)])
    (hm7 : MapL W7 lb (n + 16) (mput lm id ((pu, ts.length, cu), (q, ns.length, c)))) (hiw : Iw most (R + 16) ⟨lD, d.all ++ [⟨id, ts, ns, true⟩], d.sl ++ ns.map (fun m => (m, id))⟩) (hns : ns.length ≤ 16) (htl : ts.length ≤ 16) :
    ∃ Rd', Ry W7 x tb lb sb most seed (R + 16) (n + 16) ownJ Rd' (mput lm id ((pu, ts.length, cu), (q, ns.length, c))) smJ li ⟨lD, d.all ++ [⟨id, ts, ns, true⟩], d.sl ++ ns.map (fun m => (m, id))⟩ ∧ Only (fun g => own g ≠ none) w W7 ∧ (∀ g, ownJ g ≠ none → own g ≠ none ∨ w.heap.size ≤ g) ∧ (∀ g, Rd' g → Rd g ∨ w.heap.size ≤ g) ∧ W7.ownsRow w.heap.size 3 1 (.slice q ns.length c) ns.length (numsV ns) := by
  have hs3 := D.only.size
  have hs4 := hJo.size
  have hs7 := o7.size
  have hlb := h.lv.mp.lt
  have hsbl := h.sv.mp.lt
  have hxl := h.bk.lt
  have ox1 : own1 x = some 0 := by rw [ho1]; exact ownT_old D.ot h.ox hxl
  have ol1 : own1 lb = some 1 := by rw [ho1]; exact ownT_old D.ot h.ol hlb
  have os1 : own1 sb = some 2 := by rw [ho1]; exact ownT_old D.ot h.os hsbl
  have on1 : ∀ g, w.heap.size ≤ g → ¬ Ot g → own1 g = none := fun g hg hO => by
    rw [ho1, ownT_no hO]
    cases ho : own g with
    | none => rfl
    | some i => have := h.olt g i ho; omega
  have olt1 : ∀ g i, own1 g = some i → g < W3.heap.size := fun g i hg => by
    rw [ho1] at hg
    by_cases hO : Ot g
    · exact D.tab.lt hO
    · rw [ownT_no hO] at hg
      exact Nat.lt_of_lt_of_le (h.olt g i hg) hs3
  have rd1 : ∀ g, Rd g → own1 g = none := fun g hg => by rw [ho1]; exact ownT_none D.ot (h.rd g hg).1 (h.rd g hg).2
  have hxlb : x ≠ lb := fun e => by have := h.ox; rw [e, h.ol] at this; cases this
  -- what a block that the index does not own keeps
  have hoff : ∀ g, own1 g = none → g < W3.heap.size → ownJ g = none := fun g hg hl => by
    cases hj : ownJ g with
    | none => rfl
    | some i =>
      rcases hJ2 g i hj with h1 | h1
      · rw [hg] at h1; cases h1
      · omega
  have okeep : Only (fun g => own1 g = some 0 ∨ own1 g = some 1 ∨ own1 g = some 2 ∨ ∃ i, own1 g = some (i + 4)) W3 W7 := (hJo.more (S' := fun g => own1 g = some 0 ∨ own1 g = some 1 ∨ own1 g = some 2 ∨ ∃ i, own1 g = some (i + 4)) (fun g hg => .inl (.inr (.inr hg)))).trans o7 (fun g hg => .inl (by
    rcases hg with hg | hg
    · rw [hg]; exact .inl ox1
    · rw [hg]; exact .inr (.inl ol1)))
  have knone : ∀ g, own1 g = none → ¬ (own1 g = some 0 ∨ own1 g = some 1 ∨ own1 g = some 2 ∨ ∃ i, own1 g = some (i + 4)) := fun g hg hs => by
    rcases hs with hs | hs | hs | ⟨i, hs⟩ <;> (rw [hg] at hs; cases hs)
  have htblk : ∀ g, (Value.slice pu ts.length cu).ownBlock = some g → own1 g = none ∧ g < W3.heap.size ∧ w.heap.size ≤ g := fun g hg => ⟨on1 g (G.row.lt g hg).1 (G.off g hg).1, (G.row.lt g hg).2, (G.row.lt g hg).1⟩
  have hnblk : ∀ g, (Value.slice q ns.length c).ownBlock = some g → own1 g = none ∧ g < W3.heap.size ∧ w.heap.size ≤ g := fun g hg => ⟨on1 g (D.row.lt g hg).1 (D.off g hg), (D.row.lt g hg).2, (D.row.lt g hg).1⟩
  have hrt := ownsRow_only G.row okeep (fun g hg => knone g (htblk g hg).1)
  have hrn := ownsRow_only D.row okeep (fun g hg => knone g (hnblk g hg).1)
  have hall : Only (fun g => own g ≠ none) w W7 := (D.only.more (S' := fun g => own g ≠ none) (fun g hg => .inl (by rcases hg with hg | hg <;> (rw [hg]; simp)))).trans okeep (fun g hg => by
    by_cases hO : Ot g
    · rcases D.ot g hO with h1 | h1
      · exact .inl (by rw [h1]; simp)
      · exact .inr h1
    · rw [ho1, ownT_no hO] at hg
      exact .inl (by rcases hg with hg | hg | hg | ⟨i, hg⟩ <;> (rw [hg]; simp)))
  have hlvw : ∀ g, Rd g → ¬ (own g = some 0 ∨ own g = some 3) := fun g hg hs => by
    have := (h.rd g hg).1
    rcases hs with hs | hs <;> (rw [this] at hs; cases hs)
  have hlv3 := h.lv.only D.only (fun e => by rw [h.ol] at e; rcases e with e | e <;> (injection e with e; omega)) hlvw
  have hap : Apart lm := h.lv.mp.apart Try.underlying29
  have hlive : ∀ e ∈ d.all, e.id ≠ id := fun e he e2 => by have := last_le h.iw.ids he; omega
  refine ⟨fun g => Rd g ∨ (Value.slice pu ts.length cu).ownBlock = some g ∨ (Value.slice q ns.length c).ownBlock = some g, ⟨?_, ?_, hnq, D.wf, ⟨hm7, fun id' => ?_, fun e he hl => ?_⟩, ?_, hJ1 x 0 ox1, hJ1 lb 1 ol1, hJ1 sb 2 os1, fun g i hg => Nat.lt_of_lt_of_le (hJ3 g i hg) hs7, fun g hg => ?_, hiw, ⟨?_, ?_⟩, h.ms, fun e he => ?_⟩, hall, fun g hg => ?_, fun g hg => ?_, hrn⟩
  · show Blk W7 x _ #[_, .int .u64 (lastE (d.all ++ [⟨id, ts, ns, true⟩]) : Int), _, _, _, .int .i64 (wrongX (d.all ++ [⟨id, ts, ns, true⟩]) (d.sl ++ ns.map (fun m => (m, id))) : Int)]
    rw [lastE_snoc, h.iw.wrong_add hlast]
    exact hb7
  · exact ⟨Ot, D.tab.only okeep (fun g hg hs => by
      have : own1 g = some 3 := by rw [ho1]; exact ownT_yes hg
      rcases hs with hs | hs | hs | ⟨i, hs⟩ <;> (rw [this] at hs; injection hs with hs; omega)), fun g hg => hJ1 g 3 (by rw [ho1]; exact ownT_yes hg)⟩
  · rw [mhas_put, h.lv.has id', liveE_snoc rfl]
    by_cases e : id' = id
    · simp [e]
    · have e2 : ¬ id = id' := fun h => e h.symm
      simp [e, e2]
  · rcases List.mem_append.1 he with he | he
    · have hne := hlive e he
      rw [mget_put_other hap hne]
      have h5 := hlv3.at_ e he hl
      have hrd5 : ∀ g, Rd g → ¬ (own1 g = some 0 ∨ own1 g = some 1 ∨ own1 g = some 2 ∨ ∃ i, own1 g = some (i + 4)) := fun g hg => knone g (rd1 g hg)
      have h6 := h5.1.only okeep hrd5
      have h7 := h5.2.only okeep hrd5
      exact ⟨⟨h6.rd, fun g hg => .inl (h6.blk g hg)⟩, ⟨h7.rd, fun g hg => .inl (h7.blk g hg)⟩⟩
    · simp at he
      subst he
      rw [mget_put_same hap]
      exact ⟨⟨Reads.of_own (by rw [List.length_map]; exact hrt) (by rw [List.length_map]; show ts.length ≤ _; omega), fun g hg => .inr (.inl hg)⟩, ⟨Reads.of_own (by rw [List.length_map]; exact hrn) (by rw [List.length_map]; show ns.length ≤ _; omega), fun g hg => .inr (.inr hg)⟩⟩
  · exact hsv.only o7 (fun e => by
      rcases e with e | e
      · rw [e] at os1; rw [os1] at ox1; cases ox1
      · rw [e] at os1; rw [os1] at ol1; cases ol1) (fun g k hg e => by
      rcases e with e | e
      · rw [e, hJ1 x 0 ox1] at hg; injection hg with hg; omega
      · rw [e, hJ1 lb 1 ol1] at hg; injection hg with hg; omega)
  · rcases hg with hg | hg | hg
    · exact ⟨hoff g (rd1 g hg) (by have := (h.rd g hg).2; omega), by have := (h.rd g hg).2; omega⟩
    · obtain ⟨a1, a2, _⟩ := htblk g hg
      exact ⟨hoff g a1 a2, by omega⟩
    · obtain ⟨a1, a2, _⟩ := hnblk g hg
      exact ⟨hoff g a1 a2, by omega⟩
  · show (d.sl ++ ns.map (fun m => (m, id))).length ≤ n + 16
    rw [List.length_append, List.length_map]
    have := h.ln.1
    omega
  · show (d.all ++ [(⟨id, ts, ns, true⟩ : En)]).length ≤ n + 16
    rw [List.length_append]
    have := h.ln.2
    simp
    omega
  · rcases List.mem_append.1 he with he | he
    · exact h.lb64 e he
    · simp at he; subst he; exact hid
  · obtain ⟨i, hi⟩ := Option.ne_none_iff_exists'.1 hg
    rcases hJ2 g i hi with h1 | h1
    · by_cases hO : Ot g
      · rcases D.ot g hO with h2 | h2
        · exact .inl (by rw [h2]; simp)
        · exact .inr h2
      · rw [ho1, ownT_no hO] at h1
        exact .inl (by rw [h1]; simp)
    · exact .inr (by omega)
  · rcases hg with hg | hg | hg
    · exact .inl hg
    · exact .inr (htblk g hg).2.2
    · exact .inr (hnblk g hg).2.2
end
end Go.Proofs.Ythngkimncdpekaa
