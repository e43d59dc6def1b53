/- An index of entries: Add. -/
import Derived.Test.YtfpkeinknhijaaaGreatRevD
import Derived.Sort.OwnSortedInts
import Derived.Deep.RegionHeld3
import Derived.Test.YtfpkeinknhijaaaGreatEnt
import Derived.Deep.DeepCutAuto
/- An index of entries: Cut. -/
namespace Go.Proofs.YtfpkeinknhijaaaGreat
set_option linter.unusedVariables false
open Go.RowKit Go.Maps Go.Sort

abbrev idE (n : Nat) : Value := .int .u64 (n : Int)
theorem owns_put {w : World} {B : Nat} {e : TypeId} {g n cap q : Nat} {vs : List Value} {ys : List Nat} (h : w.ownsRow B e 1 (.slice (some ⟨g, 0, none⟩) n cap) n vs) (hl : ys.length = n) :
    (putRow idE (Sort.ahead w q) g 0 ys.toArray).ownsRow B e 1 (.slice (some ⟨g, 0, none⟩) n cap) n (idsV ys) ∧ Only (fun z => z = g) w (putRow idE (Sort.ahead w q) g 0 ys.toArray) := by
  rcases h.2 with ⟨h', _⟩ | ⟨g', cap', cur, h', hb, hg, hnc, hcm, hcs, htake⟩
  · simp at h'
  · simp only [Value.slice.injEq, Option.some.injEq, Addr.mk.injEq, and_true, true_and] at h'
    obtain ⟨rfl, rfl⟩ := h'
    refine ⟨⟨by simp [hl], .inr ⟨g, cap, putCells idE 0 ys.toArray cur, rfl, hb, ?_, hnc, hcm, by simp [putCells, hcs], ?_⟩⟩, ⟨rfl, rfl, rfl, by simp, fun k _ hk => ?_⟩⟩
    · simp [putRow, mapBlock, Sort.ahead, Array.getElem?_modify, hg, onCells]
    · apply List.ext_getElem?
      intro j
      rw [Nat.mul_one]
      by_cases hj : j < n
      · rw [List.getElem?_take_of_lt hj, Array.getElem?_toList]
        have : j < ys.length := by omega
        simp [putCells, this, show j < cur.size by omega]
      · rw [List.getElem?_take_eq_none (by omega), List.getElem?_eq_none (by simp; omega)]
    · have : g ≠ k := fun e => hk e.symm
      simp [putRow, mapBlock, Sort.ahead, Array.getElem?_modify, this]
theorem holds_owns {w : World} {B : Nat} {e : TypeId} {g n cap : Nat} {xs : List Nat} (h : w.ownsRow B e 1 (.slice (some ⟨g, 0, none⟩) n cap) n (idsV xs)) (hl : xs.length = n) : Holds idE w g 0 xs.toArray := by
  intro j hj
  have hj' : j < xs.length := by simpa using hj
  rw [Nat.zero_add]
  refine ⟨?_, h.frozenAt j⟩
  rw [h.cellAt j (by omega), List.getElem?_map, List.getElem?_eq_getElem hj']
  simp [hj']
theorem delU_any {w : World} {B g cap i : Nat} {L : List Nat} (h : w.ownsRow B 22 1 (.slice (some ⟨g, 0, none⟩) L.length cap) L.length (idsV L)) (hi : i < L.length) :
    Calls Tryz.prog 68 #[.slice (some ⟨g, 0, none⟩) L.length cap, .int .i64 (i : Int), .int .i64 ((i : Int) + 1)] w fun e w' => e = .returned (.slice (some ⟨g, 0, none⟩) (L.length - 1) cap) ∧ w'.ownsRow B 22 1 (.slice (some ⟨g, 0, none⟩) (L.length - 1) cap) (L.length - 1) (idsV (L.eraseIdx i)) ∧ Only (fun z => z = g) w w' := by
  obtain ⟨i0, hi0, hz0, hz1, hz2⟩ := info_parts u64Info
  have hcap : L.length ≤ cap ∧ cap ≤ maxLen := by
    rcases h.2 with ⟨h', _⟩ | ⟨g', cap', cur, h', _, _, hnc, hcm, _⟩
    · simp at h'
    · simp only [Value.slice.injEq, Option.some.injEq, Addr.mk.injEq, and_true, true_and] at h'
      omega
  have H := Tryz.slices_Delete idE (fun _ => rfl) 0 u64_zero i0 hi0 hz1 g 0 cap i (i + 1) L.toArray w (holds_owns h rfl) (by simpa using hcap.1) (by have := hcap.2; unfold maxLen at this; omega) (Nat.le_succ i) (by simp; omega)
  have e1 : ((i + 1 : Nat) : Int) = (i : Int) + 1 := by omega
  rw [e1] at H
  simp only [List.size_toArray] at H
  refine H.mono ?_
  rintro e w' ⟨rfl, q, rfl⟩
  have e2 : i + 1 - i = 1 := by omega
  rw [e2]
  have e3 : (L.take i ++ L.drop (i + 1) ++ List.replicate 1 0).length = L.length := by simp; omega
  have h2 := owns_put (q := q) h e3
  refine ⟨rfl, ?_, h2.2⟩
  have h3 := owns_cut h2.1 (i := L.length - 1) (by omega)
  have e4 : (idsV (L.take i ++ L.drop (i + 1) ++ List.replicate 1 0)).take (L.length - 1) = idsV (L.eraseIdx i) := by
    unfold idsV
    rw [← List.map_take, List.eraseIdx_eq_take_drop_succ, List.take_left' (by simp; omega)]
  rw [e4] at h3
  exact h3
section
variable {w w' : World} {x tb lb sb : Nat} {most seed R : Int} {n : Nat} {own : Nat → Option Nat} {Rd : Nat → Prop} {lm : List (Nat × (Slc × Slc))} {sm sm' : List (Nat × Slc)} {l0 : Nms} {d : Dx}
theorem Lv.mono {A : List En} (h : Lv w lb n Rd lm A) {n' : Nat} (hn : n ≤ n') : Lv w lb n' Rd lm A := ⟨h.mp.mono hn, h.has, h.at_⟩
theorem Sv.mono {T : List (Nat × Nat)} (h : Sv w sb n own sm T) {n' : Nat} (hn : n ≤ n') : Sv w sb n' own sm T := ⟨h.mp.mono hn, h.has, h.at_⟩
theorem Ry.mono (h : Ry w x tb lb sb most seed R n own Rd lm sm l0 d) {n' : Nat} (hn : n ≤ n') : Ry w x tb lb sb most seed R n' own Rd lm sm l0 d :=
  ⟨h.bk, h.tab, h.nq, h.wf, h.lv.mono hn, h.sv.mono hn, h.ox, h.ol, h.os, h.olt, h.rd, h.iw, ⟨Nat.le_trans h.ln.1 hn, Nat.le_trans h.ln.2 hn⟩, h.ms, h.lb64⟩
/-- Only the index itself, its map of slots and rows of it may have turned. -/
def slOwn (own : Nat → Option Nat) (g : Nat) : Prop := own g = some 0 ∨ own g = some 2 ∨ ∃ k, own g = some (k + 4)
theorem Ry.recut (h : Ry w x tb lb sb most seed R n own Rd lm sm l0 d) (ho : Only (slOwn own) w w') {S' : List (Nat × Nat)} (hb : Blk w' x 63 #[.pointer (some ⟨tb, 0, none⟩), .int .u64 (lastE d.all : Int), .map (some lb), .map (some sb), .int .i64 (S'.length : Int), .int .i64 (wrongX d.all S' : Int)])
    (hsv : Sv w' sb (n + 1) own sm' S') (hiw : Iw most R ⟨d.nm, d.all, S'⟩) (hln : S'.length ≤ d.sl.length) : Ry w' x tb lb sb most seed R (n + 1) own Rd lm sm' l0 ⟨d.nm, d.all, S'⟩ := by
  have hrd : ∀ g, Rd g → ¬ slOwn own g := fun g hg hs => by
    have := (h.rd g hg).1
    rcases hs with hs | hs | ⟨k, hs⟩ <;> (rw [this] at hs; cases hs)
  refine ⟨hb, h.tab.only ho (fun g hg hs => ?_), h.nq, h.wf, (h.lv.only ho (fun hs => ?_) hrd).mono (Nat.le_succ n), hsv, h.ox, h.ol, h.os, fun g k hg => Nat.lt_of_lt_of_le (h.olt g k hg) ho.size, fun g hg => ⟨(h.rd g hg).1, Nat.lt_of_lt_of_le (h.rd g hg).2 ho.size⟩, hiw, ⟨by have := h.ln.1; show S'.length ≤ n + 1; omega, by have := h.ln.2; show d.all.length ≤ n + 1; omega⟩, h.ms, h.lb64⟩
  · rcases hs with hs | hs | ⟨k, hs⟩ <;> (rw [hg] at hs; injection hs with hs; omega)
  · rcases hs with hs | hs | ⟨k, hs⟩ <;> (rw [h.ol] at hs; injection hs with hs; omega)
def CutP (w : World) (x : Nat) (most seed R : Int) (n : Nat) (O Rd : Nat → Prop) (r : Dx × Bool × Int) (e : Ending) (w' : World) : Prop :=
  e = .returned (.tuple #[.bool r.2.1, .int .i64 r.2.2]) ∧ Ri w' x most seed R (n + 1) O Rd r.1 ∧ Only O w w'
theorem numB_nat {t : Int} (h : numB t = true) : ∃ k : Nat, t = k ∧ k < 65536 := by
  unfold numB at h
  simp at h
  exact ⟨t.toNat, by omega, by omega⟩
set_option maxHeartbeats 1000000 in
set_option maxRecDepth 100000 in
theorem cut_bad (h : Ry w x tb lb sb most seed R n own Rd lm sm l0 d) (t i : Int) (ht : numB t = false) :
    Calls Tryz.prog 46 #[.pointer (some ⟨x, 0, none⟩), .int .i64 t, .int .i64 i] w fun e w' => e = .returned (.tuple #[.bool false, .int .i64 2]) ∧ w = w' := by
  obtain ⟨d0, d1, d2, d3, d4, d5⟩ := h.cells
  have HC := Lib.hid (rvcheck_any d0 t)
  rw [ht] at HC
  clear h d0 d1 d2 d3 d4 d5 ht
  go_enter Tryz.func46, Tryz.ntmps46
  go_wp2_with (go_at_call 67; refine HC.out.mono ?_; rintro e w1 ⟨rfl, rfl⟩)
  go_ret2
  exact ⟨rfl, rfl⟩
theorem slc_len {v : Slc} {k : Nat} {xs : List Value} (h : w.ownsRow 0 22 1 (slcV v) k xs) : v.2.1 = k := by
  rcases h.2 with ⟨h', h0⟩ | ⟨g', cap', cur, h', _⟩
  · injection h' with h1 h2 h3
    rw [h2, h0]
  · injection h' with h1 h2 h3
set_option maxHeartbeats 1000000 in
set_option maxRecDepth 100000 in
theorem cut_out (h : Ry w x tb lb sb most seed R n own Rd lm sm l0 d) (k : Nat) (hk : k < 65536) (i : Int) (hi : i < 0 ∨ ((ofX d.sl k).length : Int) ≤ i) :
    Calls Tryz.prog 46 #[.pointer (some ⟨x, 0, none⟩), .int .i64 (k : Int), .int .i64 i] w fun e w' => e = .returned (.tuple #[.bool false, .int .i64 9]) ∧ w = w' := by
  obtain ⟨d0, d1, d2, d3, d4, d5⟩ := h.cells
  have HC := Lib.hid (rvcheck_any d0 (k : Int))
  have hlk := lookN h.sv.mp hk
  have hz := slc_len (h.slc k)
  rw [show numB (k : Int) = true by unfold numB; simp; omega] at HC
  generalize (ofX d.sl k).length = K at *
  generalize mget slcZ sm k = z at *
  obtain ⟨p1, n1, k1⟩ := z
  simp only at hz
  subst hz
  clear h d0 d1 d2 d4 d5
  by_cases h0 : i < 0
  · have e0 : decide (i < 0) = true := decide_eq_true h0
    clear hi
    go_enter Tryz.func46, Tryz.ntmps46
    go_wp2_with (go_at_call 67; refine HC.out.mono ?_; rintro e w1 ⟨rfl, rfl⟩)
    go_ret2
    exact ⟨rfl, rfl⟩
  · have e0 : decide (i < 0) = false := decide_eq_false h0
    have e1 : (n1 : Int) ≤ i := by omega
    clear hi
    go_enter Tryz.func46, Tryz.ntmps46
    go_wp2_with (go_at_call 67; refine HC.out.mono ?_; rintro e w1 ⟨rfl, rfl⟩)
    go_ret2
    exact ⟨rfl, rfl⟩
set_option maxHeartbeats 1000000 in
set_option maxRecDepth 100000 in
theorem cut_live (h : Ry w x tb lb sb most seed R n own Rd lm sm l0 d) (k : Nat) (hk : k < 65536) (i u : Nat) (hu : (ofX d.sl k)[i]? = some u) (hl : liveE d.all u = true) :
    Calls Tryz.prog 46 #[.pointer (some ⟨x, 0, none⟩), .int .i64 (k : Int), .int .i64 (i : Int)] w fun e w' => e = .returned (.tuple #[.bool false, .int .i64 0]) ∧ Below w.heap.size w w' := by
  obtain ⟨d0, d1, d2, d3, d4, d5⟩ := h.cells
  have HC := Lib.hid (rvcheck_any d0 (k : Int))
  rw [show numB (k : Int) = true by unfold numB; simp; omega] at HC
  have hlk := lookN h.sv.mp hk
  have hrow := h.slc k
  have hu64 := Iw.ids64 h (List.mem_of_getElem? hu)
  have hlt : i < (ofX d.sl k).length := (List.getElem?_eq_some_iff.1 hu).1
  obtain ⟨g, cap, hf, _, _⟩ := hrow.form (by omega)
  have HLV := Lib.hid (rvlive_any h u hu64)
  rw [hl] at HLV
  rw [hf] at hrow
  have hc := hrow.cellAt i (by omega)
  rw [List.getElem?_map, hu] at hc
  change w.cell? ⟨g, i, none⟩ = some (.int .u64 (u : Int)) at hc
  generalize mget slcZ sm k = z at *
  obtain ⟨p1, n1, k1⟩ := z
  injection hf with h1 h2 h3
  simp only at h1 h2 h3
  subst h1 h2 h3
  generalize (ofX d.sl k).length = K at *
  have e0 : decide ((i : Int) < 0) = false := decide_eq_false (by omega)
  have e1 : decide ((K : Int) ≤ (i : Int)) = false := decide_eq_false (by omega)
  change _ = Result.ok (Value.slice (some ⟨g, 0, none⟩) K k1) w at hlk
  clear h hrow hu hl d0 d1 d2 d4 d5
  go_enter Tryz.func46, Tryz.ntmps46
  go_wp2_with (first
    | (go_at_call 67; refine HC.out.mono ?_; rintro e w1 ⟨rfl, rfl⟩)
    | (go_at_call 32; refine HLV.out.mono ?_; rintro e w1 ⟨rfl, b1⟩))
  go_ret2
  exact ⟨rfl, b1⟩
theorem ofX_ne_of {S : List (Nat × Nat)} {k i u : Nat} (h : (ofX S k)[i]? = some u) : ofX S k ≠ [] := fun e => by rw [e] at h; simp at h
theorem nodup_keys {m : List (Nat × Slc)} {w : World} {b n : Nat} (h : MapN w b n m) : Apart m := h.apart Tryz.underlying3
theorem mhas_del {α : Type} {m : List (Nat × α)} {t k : Nat} : mhas (mdel m t) k = (mhas m k && !(k == t)) := by
  rw [Bool.eq_iff_iff, Bool.and_eq_true, mhas_iff, mhas_iff]
  unfold mkeys mdel
  rw [List.mem_map, List.mem_map]
  constructor
  · rintro ⟨p, hp, rfl⟩
    obtain ⟨h1, h2⟩ := List.mem_filter.1 hp
    exact ⟨⟨p, h1, rfl⟩, h2⟩
  · rintro ⟨⟨p, hp, rfl⟩, h2⟩
    exact ⟨p, List.mem_filter.2 ⟨hp, h2⟩, rfl⟩
theorem mget_del_other {α : Type} {z : α} {m : List (Nat × α)} {t k : Nat} (hne : k ≠ t) : mget z (mdel m t) k = mget z m k := by
  unfold mget mdel
  rw [List.find?_filter]
  have e : (fun p : Nat × α => decide ((!(p.1 == t)) = true ∧ (p.1 == k) = true)) = fun p => p.1 == k := by
    funext p
    by_cases h : p.1 = k
    · simp [h, hne]
    · simp [h]
  rw [e]
theorem only_slOwn {S : Nat → Prop} {own : Nat → Option Nat} (h : Only S w w') (hs : ∀ g, S g → slOwn own g) : Only (slOwn own) w w' := h.more (fun g hg => .inl (hs g hg))
/-- The last slot of a number is cut: the number goes out of the map. -/
theorem Sv.cut1 {T : List (Nat × Nat)} (h : Sv w sb n own sm T) (hos : own sb = some 2) {k u : Nat} (hk : ofX T k = [u]) (hm : MapN w' sb n (mdel sm k)) (ho : Only (fun g => own g = some 0 ∨ own g = some 2) w w') : Sv w' sb n own (mdel sm k) (cutL k T 0) := by
  have hof : ∀ j, ofX (cutL k T 0) j = if j = k then [] else ofX T j := fun j => by
    by_cases e : j = k
    · subst e; rw [if_pos rfl, cutL_of_same, hk]; rfl
    · rw [if_neg e, cutL_of_other e]
  refine ⟨hm, fun j => ?_, fun j hj => ?_⟩
  · rw [mhas_del, h.has j, hof j]
    by_cases e : j = k
    · simp [e]
    · simp [e]
  · rw [hof j] at hj ⊢
    by_cases e : j = k
    · rw [if_pos e] at hj; exact absurd rfl hj
    · rw [if_neg e] at hj ⊢
      rw [mget_del_other e]
      obtain ⟨h1, h2⟩ := h.at_ j hj
      exact ⟨ownsRow_only h1 ho (fun g hg hs => by have := h2 g hg; rcases hs with hs | hs <;> (rw [this] at hs; injection hs with hs; omega)), h2⟩
/-- One of several slots of a number is cut: the row holds the others. -/
theorem Sv.cut2 {T : List (Nat × Nat)} (h : Sv w sb n own sm T) {k i : Nat} {v : Slc} (hk : (ofX T k).eraseIdx i ≠ []) (hm : MapN w' sb (n + 1) (mput sm k v)) (hap : Apart sm) (ho : Only (fun g => own g = some 0 ∨ own g = some 2 ∨ own g = some (k + 4)) w w')
    (hv : w'.ownsRow 0 22 1 (slcV v) ((ofX T k).eraseIdx i).length (idsV ((ofX T k).eraseIdx i))) (hvo : ∀ g, (slcV v).ownBlock = some g → own g = some (k + 4)) : Sv w' sb (n + 1) own (mput sm k v) (cutL k T i) := by
  have hof : ∀ j, ofX (cutL k T i) j = if j = k then (ofX T k).eraseIdx i else ofX T j := fun j => by
    by_cases e : j = k
    · subst e; rw [if_pos rfl, cutL_of_same]
    · rw [if_neg e, cutL_of_other e]
  have hne : ofX T k ≠ [] := fun e => hk (by rw [e]; rfl)
  refine ⟨hm, fun j => ?_, fun j hj => ?_⟩
  · rw [mhas_put, h.has j, hof j]
    by_cases e : j = k
    · simp [e, hk]
    · simp [e]
  · rw [hof j] at hj ⊢
    by_cases e : j = k
    · subst e
      rw [if_pos rfl, mget_put_same hap]
      exact ⟨hv, hvo⟩
    · rw [if_neg e] at hj ⊢
      rw [mget_put_other hap e]
      obtain ⟨h1, h2⟩ := h.at_ j hj
      exact ⟨ownsRow_only h1 ho (fun g hg hs => by have := h2 g hg; rcases hs with hs | hs | hs <;> (rw [this] at hs; injection hs with hs; omega)), h2⟩
set_option maxHeartbeats 4000000 in
set_option maxRecDepth 100000 in
theorem cut_dead (h : Ry w x tb lb sb most seed R n own Rd lm sm l0 d) (hn : n ≤ 100000) (k : Nat) (hk : k < 65536) (i u : Nat) (hu : (ofX d.sl k)[i]? = some u) (hl : liveE d.all u = false) :
    Calls Tryz.prog 46 #[.pointer (some ⟨x, 0, none⟩), .int .i64 (k : Int), .int .i64 (i : Int)] w (CutP w x most seed R n (fun g => own g ≠ none) Rd (⟨d.nm, d.all, cutL k d.sl i⟩, true, 0)) := by
  obtain ⟨d0, d1, d2, d3, d4, d5⟩ := h.cells
  have HC := Lib.hid (rvcheck_any d0 (k : Int))
  rw [show numB (k : Int) = true by unfold numB; simp; omega] at HC
  have hlk := lookN h.sv.mp hk
  have hrow := h.slc k
  have hu64 := Iw.ids64 h (List.mem_of_getElem? hu)
  have hlt : i < (ofX d.sl k).length := (List.getElem?_eq_some_iff.1 hu).1
  obtain ⟨g, cap, hf, _, hgl⟩ := hrow.form (by omega)
  have HLV := Lib.hid (rvlive_any h u hu64)
  rw [hl] at HLV
  have howng : own g = some (k + 4) := (h.sv.at_ k (ofX_ne_of hu)).2 g (by rw [hf]; rfl)
  have hgx : g ≠ x := fun e => by rw [e, h.ox] at howng; cases howng
  have hgs : g ≠ sb := fun e => by rw [e, h.os] at howng; injection howng with howng; omega
  have hxs : x ≠ sb := fun e => by have := h.ox; rw [e, h.os] at this; cases this
  rw [hf] at hrow
  have hc := hrow.cellAt i (by omega)
  rw [List.getElem?_map, hu] at hc
  change w.cell? ⟨g, i, none⟩ = some (.int .u64 (u : Int)) at hc
  rw [hf] at hlk
  have hl1 := cutL_len hu
  have hl2 := wrong_cut (A := d.all) hu (by rw [hl]; decide)
  have HIW : Hid (Iw most R ⟨d.nm, d.all, cutL k d.sl i⟩) := by
    have := h.iw.cut (k : Int) (i : Int)
    unfold Dx.cut at this
    rw [if_pos (by unfold numB; simp; omega), if_pos (by omega), Int.toNat_natCast, Int.toNat_natCast, hu] at this
    simp only [hl, Bool.false_eq_true, if_false] at this
    exact this
  have HU := Lib.hid hu
  obtain ⟨K, hK⟩ : ∃ K, (ofX d.sl k).length = K := ⟨_, rfl⟩
  have hKs := ofX_len d.sl k
  rw [hK] at hlt hlk hrow hKs
  have HK := Lib.hid hK
  have e0 : decide ((i : Int) < 0) = false := decide_eq_false (by omega)
  have e1 : decide ((K : Int) ≤ (i : Int)) = false := decide_eq_false (by omega)
  have HY := Lib.hid h
  have hsz := h.ln.1
  have hwl := wrong_le d.all d.sl
  have w3e : IntKind.i64.wrap ((i : Int) + 1) = (i : Int) + 1 := IntWalk.i64_in _ (by omega)
  obtain ⟨S', hS'⟩ : ∃ S', cutL k d.sl i = S' := ⟨_, rfl⟩
  rw [hS'] at hl1 hl2 HIW ⊢
  have HS' := Lib.hid hS'
  have w1e : IntKind.i64.wrap ((d.sl.length : Int) - 1) = (S'.length : Int) := by rw [IntWalk.i64_in _ (by omega)]; omega
  have w2e : IntKind.i64.wrap ((wrongX d.all d.sl : Int) - 1) = (wrongX d.all S' : Int) := by rw [IntWalk.i64_in _ (by omega)]; omega
  have hxl := h.bk.lt
  have HLN : Hid (S'.length ≤ d.sl.length) := by unfold Hid; omega
  have HW : Hid (∀ w1, Below w.heap.size w w1 → MapN ((w1.setCell ⟨x, 4, none⟩ (.int .i64 (S'.length : Int))).setCell ⟨x, 5, none⟩ (.int .i64 (wrongX d.all S' : Int))) sb n sm ∧
      Blk ((w1.setCell ⟨x, 4, none⟩ (.int .i64 (S'.length : Int))).setCell ⟨x, 5, none⟩ (.int .i64 (wrongX d.all S' : Int))) x 63 #[.pointer (some ⟨tb, 0, none⟩), .int .u64 (lastE d.all : Int), .map (some lb), .map (some sb), .int .i64 (S'.length : Int), .int .i64 (wrongX d.all S' : Int)] ∧
      Only (fun g => own g = some 0) w ((w1.setCell ⟨x, 4, none⟩ (.int .i64 (S'.length : Int))).setCell ⟨x, 5, none⟩ (.int .i64 (wrongX d.all S' : Int)))) := by
    intro w1 hb
    have h1 := HY.out.below hb
    have ho1 : Only (fun g => own g = some 0) w w1 := Only.of_below hb _
    have ho : Only (fun g => own g = some 0) w ((w1.setCell ⟨x, 4, none⟩ (.int .i64 (S'.length : Int))).setCell ⟨x, 5, none⟩ (.int .i64 (wrongX d.all S' : Int))) := (ho1.setCell1 (g := x) (.inl h1.ox) 4 _).setCell1 (g := x) (.inl h1.ox) 5 _
    refine ⟨mapv_turn HY.out.sv.mp (ho.block sb HY.out.sv.mp.lt (fun e => by rw [HY.out.os] at e; cases e)), ?_, ho⟩
    have := (h1.bk.set_ 4 (.int .i64 (S'.length : Int))).set_ 5 (.int .i64 (wrongX d.all S' : Int))
    simpa using this
  have HFIN : Hid (∀ sm' W, Only (slOwn own) w W → Blk W x 63 #[.pointer (some ⟨tb, 0, none⟩), .int .u64 (lastE d.all : Int), .map (some lb), .map (some sb), .int .i64 (S'.length : Int), .int .i64 (wrongX d.all S' : Int)] → Sv W sb (n + 1) own sm' S' → CutP w x most seed R n (fun g => own g ≠ none) Rd (⟨d.nm, d.all, S'⟩, true, 0) (.returned (.tuple #[.bool true, .int .i64 0])) W) := by
    intro sm' W ho hb hsv
    exact ⟨rfl, ⟨tb, lb, sb, own, lm, sm', l0, HY.out.recut ho hb hsv HIW.out HLN.out, fun g => Iff.rfl⟩, ho.more (fun g hg => .inl (by rcases hg with hg | hg | ⟨j, hg⟩ <;> (rw [hg]; simp)))⟩
  have HROW := Lib.hid hrow
  by_cases hK1 : K = 1
  · have e2 : ((K : Int) == 1) = true := by rw [hK1]; rfl
    have HK1 := Lib.hid hK1
    clear h hrow hu hl d0 d1 d2 hK hf hS' hK1 HIW
    go_enter Tryz.func46, Tryz.ntmps46
    go_wp2_with (first
      | (go_at_call 67; refine HC.out.mono ?_; rintro e w1 ⟨rfl, rfl⟩)
      | (go_at_call 32; refine HLV.out.mono ?_; rintro e w1 ⟨rfl, b1⟩; have d3 := (b1.cell (p := ⟨x, 3, none⟩) hxl).trans d3; have d4 := (b1.cell (p := ⟨x, 4, none⟩) hxl).trans d4; have d5 := (b1.cell (p := ⟨x, 5, none⟩) hxl).trans d5; have hfx4 := (HY.out.below b1).bk.frozen 4; have hfx5 := (HY.out.below b1).bk.frozen 5; have HB1 := Lib.hid b1; clear b1)
      | (at_delete; refine wpList_delete_v (val := slcV) (q := .i64) rfl _ _ 61 66 rfl Tryz.underlying3 Tryz.underlying61 rfl (HW.out _ HB1.out).1 k (wf_i64 (by omega)) rfl ?_; intro w2 m2 g2; have M2 := Lib.hid m2; have G2 := Lib.hid g2; clear m2 g2))
    go_ret2
    obtain ⟨q1, q2, q3⟩ := HW.out _ HB1.out
    have ho2 : Only (fun g => own g = some 0 ∨ own g = some 2) w w2 := (q3.more (fun g hg => .inl (.inl hg))).trans (Only.of_grown (S := fun g => own g = some 0 ∨ own g = some 2) G2.out (.inr HY.out.os)) (fun g hg => .inl hg)
    have hi0 : i = 0 := by have := HK1.out; omega
    have h1 : ofX d.sl k = [u] := by
      have h2 := HU.out
      have h3 := HK.out
      rw [HK1.out] at h3
      obtain ⟨y, hy⟩ := List.length_eq_one_iff.1 h3
      rw [hy, hi0] at h2
      simp at h2
      rw [hy, h2]
    have hsv := (HY.out.sv.cut1 HY.out.os h1 M2.out ho2).mono (Nat.le_succ n)
    rw [hi0] at HS'
    rw [HS'.out] at hsv
    exact HFIN.out _ _ (ho2.more (fun g hg => .inl (by rcases hg with hg | hg; exact .inl hg; exact .inr (.inl hg)))) (Blk.grown q2 G2.out (by simp; omega)) hsv
  · have e2 : ((K : Int) == 1) = false := by rw [beq_eq_false_iff_ne]; omega
    have hK2 : 2 ≤ K := by omega
    clear h hrow hu hl d0 d1 d2 hK hf hS' hK1 HIW
    go_enter Tryz.func46, Tryz.ntmps46
    go_wp2_with (first
      | (go_at_call 67; refine HC.out.mono ?_; rintro e w1 ⟨rfl, rfl⟩)
      | (go_at_call 32; refine HLV.out.mono ?_; rintro e w1 ⟨rfl, b1⟩; have d3 := (b1.cell (p := ⟨x, 3, none⟩) hxl).trans d3; have d4 := (b1.cell (p := ⟨x, 4, none⟩) hxl).trans d4; have d5 := (b1.cell (p := ⟨x, 5, none⟩) hxl).trans d5; have hfx4 := (HY.out.below b1).bk.frozen 4; have hfx5 := (HY.out.below b1).bk.frozen 5; have HB1 := Lib.hid b1; clear b1))
    obtain ⟨q1, q2, q3⟩ := HW.out _ HB1.out
    have x3 := q2.cell 3
    have hrow2 := ownsRow_only HROW.out q3 (fun z hz e => by rw [show z = g from by injection hz with hz; exact hz.symm, howng] at e; injection e with e; omega)
    obtain ⟨W, hW⟩ : ∃ W, (w1.setCell ⟨x, 4, none⟩ (.int .i64 (S'.length : Int))).setCell ⟨x, 5, none⟩ (.int .i64 (wrongX d.all S' : Int)) = W := ⟨_, rfl⟩
    rw [hW] at q1 q2 q3 x3 hrow2 ⊢
    have Q1 := Lib.hid q1
    have Q2 := Lib.hid q2
    have Q3 := Lib.hid q3
    have HR2 := Lib.hid hrow2
    clear q1 q2 q3 hrow2 hW d3 d4 d5 hfx4 hfx5 HW
    have HDEL := Lib.hid (fun (W' : World) (hr : W'.ownsRow 0 22 1 (.slice (some ⟨g, 0, none⟩) K cap) K (idsV (ofX d.sl k))) => (by
      have := delU_any (w := W') (L := ofX d.sl k) (i := i) (cap := cap) (B := 0) (g := g) (by rw [HK.out]; exact hr) (by rw [HK.out]; exact hlt)
      rw [HK.out] at this
      exact this : Calls Tryz.prog 68 #[.slice (some ⟨g, 0, none⟩) K cap, .int .i64 (i : Int), .int .i64 ((i : Int) + 1)] W' fun e w' => e = .returned (.slice (some ⟨g, 0, none⟩) (K - 1) cap) ∧ w'.ownsRow 0 22 1 (.slice (some ⟨g, 0, none⟩) (K - 1) cap) (K - 1) (idsV ((ofX d.sl k).eraseIdx i)) ∧ Only (fun z => z = g) W' w'))
    obtain ⟨K1, hK1⟩ : ∃ K1, K - 1 = K1 := ⟨_, rfl⟩
    rw [hK1] at HDEL
    have HRD : Hid (W.drew.ownsRow 0 22 1 (.slice (some ⟨g, 0, none⟩) K cap) K (idsV (ofX d.sl k))) := HR2.out
    have QD2 : Hid (Blk W.drew x 63 #[.pointer (some ⟨tb, 0, none⟩), .int .u64 (lastE d.all : Int), .map (some lb), .map (some sb), .int .i64 (S'.length : Int), .int .i64 (wrongX d.all S' : Int)]) := Q2.out
    have QD1 : Hid (MapN W.drew sb n sm) := mapv_turn Q1.out rfl
    have xd3 := QD2.out.cell 3
    go_region_held3 (fun w' => w'.cell? ⟨x, 3, none⟩ = some (.map (some sb))) (go_keep) ((go_at_call 68; refine (HDEL.out _ HRD.out).mono ?_; rintro e w4 ⟨rfl, ow4, ho4⟩; have x4 := (Blk.only QD2.out ho4 (fun e => hgx e.symm)).cell 3; have m4 := mapv_turn QD1.out (ho4.block sb QD1.out.lt (fun e => hgs e.symm)); obtain ⟨w7, hrun0, m7, g7⟩ := World.mapv.update m4 Tryz.underlying3 Tryz.underlying61 (by unfold maxLen; omega) (a := ((some ⟨g, 0, none⟩, K1, cap) : Slc)) trivial (s := k) (wf_i64 (by omega)); have hrun : Sem.run Tryz.prog (Instr.mapUpdate 61 (.map (some sb)) (.int .i64 (k : Int)) (.slice (some ⟨g, 0, none⟩) K1 cap)) w4 = .ok () w7 := hrun0; have x7 := (Blk.grown (Blk.only QD2.out ho4 (fun e => hgx e.symm)) g7 (by simp; exact hxs)).cell 3; have M7 := Lib.hid m7; have G7 := Lib.hid g7; have OW4 := Lib.hid ow4; have HO4 := Lib.hid ho4; clear ow4 ho4 m4 m7 g7 hrun0))
    go_wp2_with fail
    go_ret2
    have hq2 : Blk w7 x 63 #[.pointer (some ⟨tb, 0, none⟩), .int .u64 (lastE d.all : Int), .map (some lb), .map (some sb), .int .i64 (S'.length : Int), .int .i64 (wrongX d.all S' : Int)] := Blk.grown (Blk.only QD2.out HO4.out (fun e => hgx e.symm)) G7.out (by simp; exact hxs)
    have ho1 : Only (fun z => own z = some 0 ∨ own z = some 2 ∨ own z = some (k + 4)) w W.drew := ((Q3.out.more (fun z hz => .inl (.inl hz))) : Only _ w W).drew
    have ho2 : Only (fun z => own z = some 0 ∨ own z = some 2 ∨ own z = some (k + 4)) w w7 := (ho1.trans HO4.out (fun z hz => .inl (by rw [hz]; exact .inr (.inr howng)))).trans (Only.of_grown (S := fun z => own z = some 0 ∨ own z = some 2 ∨ own z = some (k + 4)) G7.out (.inr (.inl HY.out.os))) (fun z hz => .inl hz)
    have hel : ((ofX d.sl k).eraseIdx i).length = K1 := by rw [List.length_eraseIdx_of_lt (by rw [HK.out]; exact hlt), HK.out, hK1]
    have hrow7 : w7.ownsRow 0 22 1 (slcV (some ⟨g, 0, none⟩, K1, cap)) ((ofX d.sl k).eraseIdx i).length (idsV ((ofX d.sl k).eraseIdx i)) := by
      rw [hel]
      exact OW4.out.kept G7.out (.inr (fun e => hgs (by injection e)))
    have hsv := HY.out.sv.cut2 (v := (some ⟨g, 0, none⟩, K1, cap)) (k := k) (i := i) (fun e => by rw [e] at hel; simp at hel; omega) M7.out (nodup_keys HY.out.sv.mp) ho2 hrow7 (fun z hz => by rw [show z = g from by injection hz with hz; exact hz.symm]; exact howng)
    rw [HS'.out] at hsv
    exact HFIN.out _ _ (ho2.more (fun z hz => .inl (by rcases hz with hz | hz | hz; exact .inl hz; exact .inr (.inl hz); exact .inr (.inr ⟨k, hz⟩)))) hq2 hsv
end
/-- Cut, whatever the number and the index. -/
theorem rvcut_any {w : World} {x : Nat} {most seed R : Int} {n : Nat} {O Rd : Nat → Prop} {d : Dx} (h : Ri w x most seed R n O Rd d) (hn : n ≤ 100000) (t i : Int) :
    Calls Tryz.prog 46 #[.pointer (some ⟨x, 0, none⟩), .int .i64 t, .int .i64 i] w (CutP w x most seed R n O Rd (d.cut t i)) := by
  obtain ⟨tb, lb, sb, own, lm, sm, l0, h1, h2⟩ := h
  have hstay : ∀ (r : Bool) (e : Int) (w' : World), Below w.heap.size w w' → CutP w x most seed R n O Rd (d, r, e) (.returned (.tuple #[.bool r, .int .i64 e])) w' := fun r e w' hb => ⟨rfl, ⟨tb, lb, sb, own, lm, sm, l0, (h1.below hb).mono (Nat.le_succ n), h2⟩, Only.of_below hb _⟩
  cases ht : numB t with
  | false =>
    have e : d.cut t i = (d, false, 2) := by unfold Dx.cut; rw [if_neg (by rw [ht]; decide)]
    rw [e]
    refine (cut_bad h1 t i ht).mono ?_
    rintro e w' ⟨rfl, rfl⟩
    exact hstay _ _ _ (Below.refl _ _)
  | true =>
    obtain ⟨k, rfl, hk⟩ := numB_nat ht
    by_cases hi : 0 ≤ i
    · obtain ⟨j, rfl⟩ : ∃ j : Nat, i = j := ⟨i.toNat, by omega⟩
      cases hu : (ofX d.sl k)[j]? with
      | none =>
        have e : d.cut (k : Int) (j : Int) = (d, false, 9) := by
          unfold Dx.cut
          rw [if_pos ht, if_pos hi, Int.toNat_natCast, Int.toNat_natCast, hu]
        rw [e]
        refine (cut_out h1 k hk (j : Int) (.inr (by rw [List.getElem?_eq_none_iff] at hu; omega))).mono ?_
        rintro e w' ⟨rfl, rfl⟩
        exact hstay _ _ _ (Below.refl _ _)
      | some u =>
        cases hl : liveE d.all u with
        | true =>
          have e : d.cut (k : Int) (j : Int) = (d, false, 0) := by
            unfold Dx.cut
            rw [if_pos ht, if_pos hi, Int.toNat_natCast, Int.toNat_natCast, hu]
            simp only [hl, if_true]
          rw [e]
          refine (cut_live h1 k hk j u hu hl).mono ?_
          rintro e w' ⟨rfl, hb⟩
          exact hstay _ _ _ hb
        | false =>
          have e : d.cut (k : Int) (j : Int) = (⟨d.nm, d.all, cutL k d.sl j⟩, true, 0) := by
            unfold Dx.cut
            rw [if_pos ht, if_pos hi, Int.toNat_natCast, Int.toNat_natCast, hu]
            simp only [hl, Bool.false_eq_true, if_false]
          rw [e]
          refine (cut_dead h1 hn k hk j u hu hl).mono ?_
          rintro e w' ⟨rfl, hr, ho⟩
          obtain ⟨tb', lb', sb', own', lm', sm', l0', h3, h4⟩ := hr
          exact ⟨rfl, ⟨tb', lb', sb', own', lm', sm', l0', h3, fun g => (h2 g).trans (h4 g)⟩, ho.more (fun g hg => .inl ((h2 g).2 hg))⟩
    · have e : d.cut (k : Int) i = (d, false, 9) := by
        unfold Dx.cut
        rw [if_pos ht, if_neg hi]
      rw [e]
      refine (cut_out h1 k hk i (.inl (by omega))).mono ?_
      rintro e w' ⟨rfl, rfl⟩
      exact hstay _ _ _ (Below.refl _ _)
end Go.Proofs.YtfpkeinknhijaaaGreat
/- An index of entries: New, Drop. -/
namespace Go.Proofs.YtfpkeinknhijaaaGreat
set_option linter.unusedVariables false
open Go.RowKit Go.Maps Go.Sort

/-- Only blocks of O, and new ones, have turned; the blocks are now those of O'. -/
structure Goes (w : World) (O : Nat → Prop) (w' : World) (O' : Nat → Prop) : Prop where
  only : Only O w w'
  new : ∀ x, O' x → O x ∨ w.heap.size ≤ x
open Classical in
noncomputable def ownT (own : Nat → Option Nat) (Ot : Nat → Prop) : Nat → Option Nat := fun g => if Ot g then some 3 else own g
theorem ownT_yes {own : Nat → Option Nat} {Ot : Nat → Prop} {g : Nat} (h : Ot g) : ownT own Ot g = some 3 := by unfold ownT; rw [if_pos h]
theorem ownT_no {own : Nat → Option Nat} {Ot : Nat → Prop} {g : Nat} (h : ¬ Ot g) : ownT own Ot g = own g := by unfold ownT; rw [if_neg h]
theorem ownT_old {own : Nat → Option Nat} {Ot : Nat → Prop} {B g k : Nat} (hO : ∀ g, Ot g → own g = some 3 ∨ B ≤ g) (hg : own g = some k) (hlt : g < B) : ownT own Ot g = some k := by
  by_cases h : Ot g
  · rw [ownT_yes h]
    rcases hO g h with h1 | h1
    · exact h1.symm.trans hg
    · omega
  · rw [ownT_no h, hg]
theorem ownT_none {own : Nat → Option Nat} {Ot : Nat → Prop} {B g : Nat} (hO : ∀ g, Ot g → own g = some 3 ∨ B ≤ g) (hg : own g = none) (hlt : g < B) : ownT own Ot g = none := by
  by_cases h : Ot g
  · rcases hO g h with h1 | h1
    · rw [hg] at h1; cases h1
    · omega
  · rw [ownT_no h, hg]
def NewP_ (w : World) (most seed : Int) (e : Ending) (w' : World) : Prop :=
  ∃ x O, e = .returned (.tuple #[.pointer (some ⟨x, 0, none⟩), .int .i64 0]) ∧ Ri w' x most seed 0 0 O (fun _ => False) ⟨[], [], []⟩ ∧ (∀ g, O g → w.heap.size ≤ g) ∧ Below w.heap.size w w'
set_option maxHeartbeats 1000000 in
set_option maxRecDepth 100000 in
theorem rvnew_bad (most seed : Int) (h : most < 1 ∨ 65536 < most) (w : World) :
    Calls Tryz.prog 6 #[.int .i64 most, .int .u64 seed] w fun e w' => e = .returned (.tuple #[.pointer none, .int .i64 2]) ∧ w = w' := by
  have HN := Lib.hid (new_bad most seed h w)
  clear h
  go_enter Tryz.func6, Tryz.ntmps6
  go_wp2_with (go_at_call 18; refine HN.out.mono ?_; rintro e w1 ⟨rfl, rfl⟩)
  go_ret2
  exact ⟨rfl, rfl⟩
set_option maxHeartbeats 2000000 in
set_option maxRecDepth 100000 in
theorem rvnew_ok (most seed : Int) (h1 : 1 ≤ most) (h2 : most ≤ 65536) (s0 : 0 ≤ seed) (s1 : seed ≤ 18446744073709551615) (w : World) :
    Calls Tryz.prog 6 #[.int .i64 most, .int .u64 seed] w (NewP_ w most seed) := by
  have HN := Lib.hid (new_ok most seed h1 h2 s0 s1 w)
  have hmm := @run_makeMap Tryz.prog
  go_enter Tryz.func6, Tryz.ntmps6
  go_wp2_with (go_at_call 18; refine HN.out.mono ?_; rintro e w1 ⟨b, O, rfl, t1, t2, t3⟩)
  go_ret2
  have hsz := t3.size
  have hbl := t1.own.2
  have hm1 : MapL (w1.alloc (.map #[] 0)) w1.heap.size 0 [] := World.mapv.made w1 _ _ _
  have ha1 : Below w1.heap.size w1 (w1.alloc (.map #[] 0)) := (Below.refl _ _).alloc (Nat.le_refl _) _
  have hm2 : MapN ((w1.alloc (.map #[] 0)).alloc (.map #[] 0)) (w1.alloc (.map #[] 0)).heap.size 0 [] := World.mapv.made _ _ _ _
  rw [show (w1.alloc (.map #[] 0)).heap.size = w1.heap.size + 1 by simp] at hm2
  have ha2 : Below w1.heap.size w1 ((w1.alloc (.map #[] 0)).alloc (.map #[] 0)) := ha1.alloc (by simp) _
  have hbk := Blk.new ((w1.alloc (.map #[] 0)).alloc (.map #[] 0)) 63 #[.pointer (some ⟨b, 0, none⟩), .int .u64 0, .map (some w1.heap.size), .map (some (w1.heap.size + 1)), .int .i64 0, .int .i64 0]
  rw [show ((w1.alloc (.map #[] 0)).alloc (.map #[] 0)).heap.size = w1.heap.size + 2 by simp] at hbk
  have ha3 : Below w1.heap.size w1 (((w1.alloc (.map #[] 0)).alloc (.map #[] 0)).alloc (.cells #[.pointer (some ⟨b, 0, none⟩), .int .u64 0, .map (some w1.heap.size), .map (some (w1.heap.size + 1)), .int .i64 0, .int .i64 0] 63)) := ha2.alloc (by simp; omega) _
  obtain ⟨own, hown⟩ : ∃ own : Nat → Option Nat, own = fun g => if g = w1.heap.size + 2 then some 0 else if g = w1.heap.size then some 1 else if g = w1.heap.size + 1 then some 2 else ownT (fun _ => none) O g := ⟨_, rfl⟩
  have o0 : own (w1.heap.size + 2) = some 0 := by rw [hown]; simp
  have o1 : own w1.heap.size = some 1 := by rw [hown]; simp
  have o2 : own (w1.heap.size + 1) = some 2 := by rw [hown]; simp
  have o3 : ∀ g, O g → own g = some 3 := fun g hg => by
    have := t1.lt hg
    rw [hown]
    simp only
    rw [if_neg (by omega), if_neg (by omega), if_neg (by omega), ownT_yes hg]
  have on : ∀ g k, own g = some k → g = w1.heap.size + 2 ∨ g = w1.heap.size ∨ g = w1.heap.size + 1 ∨ O g := fun g k hg => by
    rw [hown] at hg
    simp only at hg
    split at hg
    · exact .inl ‹_›
    · split at hg
      · exact .inr (.inl ‹_›)
      · split at hg
        · exact .inr (.inr (.inl ‹_›))
        · by_cases ho : O g
          · exact .inr (.inr (.inr ho))
          · rw [ownT_no ho] at hg; cases hg
  refine ⟨w1.heap.size + 2, fun g => own g ≠ none, rfl, ⟨b, w1.heap.size, w1.heap.size + 1, own, [], [], [], ⟨?_, ⟨O, t1.below ha3, o3⟩, Nq.refl _, Wf.nil most 0 (by omega) (Int.le_refl _), ⟨?_, fun id => rfl, fun e he => (by cases he)⟩, ⟨?_, fun k => rfl, fun k hk => absurd rfl hk⟩, o0, o1, o2, fun g k hg => ?_, fun g hg => hg.elim, Iw.start most (by omega), ⟨Nat.le_refl _, Nat.le_refl _⟩, ⟨h1, h2⟩, fun e he => (by cases he)⟩, fun g => Iff.rfl⟩, fun g hg => ?_, t3.trans (ha3.mono hsz)⟩
  · exact hbk
  · exact mapv_turn hm1 ((Below.heap_alloc _ _ _ (by simp; omega)).trans (Below.heap_alloc _ _ _ (by simp)))
  · exact mapv_turn hm2 (Below.heap_alloc _ _ _ (by simp))
  · have hs3 : (((w1.alloc (.map #[] 0)).alloc (.map #[] 0)).alloc (.cells #[.pointer (some ⟨b, 0, none⟩), .int .u64 0, .map (some w1.heap.size), .map (some (w1.heap.size + 1)), .int .i64 0, .int .i64 0] 63)).heap.size = w1.heap.size + 3 := by simp
    show g < (((w1.alloc (.map #[] 0)).alloc (.map #[] 0)).alloc (.cells #[.pointer (some ⟨b, 0, none⟩), .int .u64 0, .map (some w1.heap.size), .map (some (w1.heap.size + 1)), .int .i64 0, .int .i64 0] 63)).heap.size
    rw [hs3]
    rcases on g k hg with h | h | h | h
    · omega
    · omega
    · omega
    · have := t1.lt h; omega
  · obtain ⟨k, hk⟩ := Option.ne_none_iff_exists'.1 hg
    rcases on g k hk with h | h | h | h
    · omega
    · omega
    · omega
    · exact t2 g h
section
variable {w w' : World} {x tb lb sb : Nat} {most seed R : Int} {n : Nat} {own : Nat → Option Nat} {Rd : Nat → Prop} {lm : List (Nat × (Slc × Slc))} {sm : List (Nat × Slc)} {l0 : Nms} {d : Dx}
def DropP (w : World) (x : Nat) (most seed R : Int) (n : Nat) (O Rd : Nat → Prop) (r : Dx × List Nat × Int) (e : Ending) (w' : World) : Prop :=
  ∃ v O', e = .returned (.tuple #[v, .int .i64 r.2.2]) ∧ w'.ownsRow w.heap.size 3 1 v r.2.1.length (numsV r.2.1) ∧ Ri w' x most seed R n O' Rd r.1 ∧ Goes w O w' O' ∧ ∀ g, v.ownBlock = some g → ¬ (O' g ∨ Rd g)
set_option maxHeartbeats 1000000 in
set_option maxRecDepth 100000 in
theorem drop_no (h : Ry w x tb lb sb most seed R n own Rd lm sm l0 d) (id : Nat) (hid : id ≤ 18446744073709551615) (hl : liveE d.all id = false) :
    Calls Tryz.prog 45 #[.pointer (some ⟨x, 0, none⟩), .int .u64 (id : Int)] w fun e w' => e = .returned (.tuple #[.slice none 0 0, .int .i64 9]) ∧ Below w.heap.size w w' := by
  have HF := Lib.hid (rvfind_no h id hid hl)
  clear h hl
  go_enter Tryz.func45, Tryz.ntmps45
  go_wp2_with (go_at_call 60; refine HF.out.mono ?_; rintro e w1 ⟨rfl, b1⟩)
  go_ret2
  exact ⟨rfl, b1.alloc b1.size _⟩
/-- Between two rounds of Drop, in memory: k is what is wrong beyond what was. -/
structure Dst (w wr : World) (x tb lb sb : Nat) (most seed R : Int) (own : Nat → Option Nat) (A : List En) (S : List (Nat × Nat)) (k : Nat) (Ot : Nat → Prop) (li : Nms) (q : Option Addr) (c : Nat) (fr : List Nat) : Prop where
  bk : Blk wr x 63 #[.pointer (some ⟨tb, 0, none⟩), .int .u64 (lastE A : Int), .map (some lb), .map (some sb), .int .i64 (S.length : Int), .int .i64 ((wrongX A S : Int) + (k : Int))]
  tab : Tab wr tb Ot most seed li
  ot : ∀ g, Ot g → own g = some 3 ∨ w.heap.size ≤ g
  row : wr.ownsRow w.heap.size 3 1 (.slice q fr.length c) fr.length (numsV fr)
  off : ∀ g, (Value.slice q fr.length c).ownBlock = some g → ¬ Ot g
  only : Only (fun g => own g = some 0 ∨ own g = some 3) w wr
  wf : Wf most R li
  ox : own x = some 0
  xl : x < w.heap.size
section
variable {A : List En} {S : List (Nat × Nat)} {k : Nat} {Ot : Nat → Prop} {li : Nms} {q : Option Addr} {c : Nat} {fr : List Nat} {wr wr' : World}
theorem Dst.below (h : Dst w wr x tb lb sb most seed R own A S k Ot li q c fr) (hb : Below wr.heap.size wr wr') : Dst w wr' x tb lb sb most seed R own A S k Ot li q c fr :=
  ⟨h.bk.below hb h.bk.lt, h.tab.below hb, h.ot, ownsRow_below h.row hb, h.off, h.only.trans (Only.of_below hb (fun _ => False)) (fun _ h => h.elim), h.wf, h.ox, h.xl⟩
theorem Dst.nx (h : Dst w wr x tb lb sb most seed R own A S k Ot li q c fr) : ¬ Ot x := fun hx => by
  rcases h.ot x hx with h1 | h1
  · rw [h.ox] at h1; cases h1
  · have := h.xl; omega
theorem Dst.rel (h : Dst w wr x tb lb sb most seed R own A S k Ot li q c fr) {O' : Nat → Prop} {u : Int} (ht : Tab wr' tb O' most seed (relM li u).1) (ho : Only Ot wr wr') (hn : ∀ g, O' g → Ot g ∨ wr.heap.size ≤ g) : Dst w wr' x tb lb sb most seed R own A S k O' (relM li u).1 q c fr := by
  have hs := h.only.size
  refine ⟨h.bk.only ho h.nx, ht, fun g hg => ?_, ownsRow_only h.row ho h.off, fun g hg hO => ?_, ?_, h.wf.rel u, h.ox, h.xl⟩
  · rcases hn g hg with h1 | h1
    · exact h.ot g h1
    · exact .inr (by omega)
  · rcases hn g hO with h1 | h1
    · exact h.off g hg h1
    · have := (h.row.lt g hg).2; omega
  · exact h.only.trans ho (fun g hg => by
      rcases h.ot g hg with h1 | h1
      · exact .inl (.inr h1)
      · exact .inr h1)
theorem Dst.app (h : Dst w wr x tb lb sb most seed R own A S k Ot li q c fr) {o : Obj} {q' : Option Addr} {c' u : Nat} (hown : wr'.ownsRow w.heap.size 3 1 (.slice q' (fr.length + 1) c') (fr.length + 1) (numsV fr ++ [.int .i64 (u : Int)]))
    (hg : (wr.alloc o).grownBy wr' (Value.slice q fr.length c).ownBlock) (hq : ∀ g, (Value.slice q' (fr.length + 1) c').ownBlock = some g → (Value.slice q fr.length c).ownBlock = some g ∨ wr.heap.size ≤ g) : Dst w wr' x tb lb sb most seed R own A S k Ot li q' c' (fr ++ [u]) := by
  have hlen : (fr ++ [u]).length = fr.length + 1 := by simp
  have ho : Only (fun g => (Value.slice q fr.length c).ownBlock = some g) wr wr' := (((Only.refl (fun g => (Value.slice q fr.length c).ownBlock = some g) wr).alloc o).trans (⟨hg.os, hg.tape, hg.output, hg.size, fun i hi hn => hg.block i hi (fun e => hn e.symm)⟩ : Only (fun g => (Value.slice q fr.length c).ownBlock = some g) _ _) (fun g hg => .inl hg))
  refine ⟨h.bk.only ho (fun e => by have := (h.row.lt x e).1; have := h.xl; omega), h.tab.only ho (fun g hg hs => h.off g hs hg), h.ot, ?_, ?_, h.only.trans ho (fun g hg => .inr (h.row.lt g hg).1), h.wf, h.ox, h.xl⟩
  · rw [hlen]
    unfold numsV
    rw [List.map_append]
    exact hown
  · rw [hlen]
    intro g hg hO
    rcases hq g hg with h1 | h1
    · exact h.off g h1 hO
    · have := h.tab.lt hO; omega
theorem Dst.wrong (h : Dst w wr x tb lb sb most seed R own A S k Ot li q c fr) : Dst w (wr.setCell ⟨x, 5, none⟩ (.int .i64 ((wrongX A S : Int) + ((k + 1 : Nat) : Int)))) x tb lb sb most seed R own A S (k + 1) Ot li q c fr := by
  have ho : Only (fun g => g = x) wr (wr.setCell ⟨x, 5, none⟩ (.int .i64 ((wrongX A S : Int) + ((k + 1 : Nat) : Int)))) := (Only.refl (fun g => g = x) wr).setCell1 (g := x) (.inl rfl) 5 _
  refine ⟨by have := h.bk.set_ 5 (.int .i64 ((wrongX A S : Int) + ((k + 1 : Nat) : Int))); simpa using this, h.tab.only ho (fun g hg e => h.nx (by rw [← e]; exact hg)), h.ot, ownsRow_only h.row ho (fun g hg e => by have := (h.row.lt g hg).1; have := h.xl; omega), h.off, ?_, h.wf, h.ox, h.xl⟩
  exact h.only.trans ho (fun g hg => .inl (.inl (by rw [hg]; exact h.ox)))
theorem rels_rest {l0 li : Nms} {nums fr r : List Nat} {u : Nat} (h : relsM l0 nums = ((relsM li (u :: r)).1, fr ++ (relsM li (u :: r)).2)) :
    relsM l0 nums = ((relsM (relM li (u : Int)).1 r).1, (if (relM li (u : Int)).2.1 = true then fr ++ [u] else fr) ++ (relsM (relM li (u : Int)).1 r).2) := by
  rw [h]
  show ((relsM (relM li (u : Int)).1 r).1, fr ++ (if (relM li (u : Int)).2.1 = true then u :: (relsM (relM li (u : Int)).1 r).2 else (relsM (relM li (u : Int)).1 r).2)) = _
  split
  · rw [List.append_assoc]; rfl
  · rfl
end
/-- An entry is dropped: what lies in memory is the document's. -/
theorem Ry.redrop (h : Ry w x tb lb sb most seed R n own Rd lm sm l0 d) {e : En} (he : e ∈ d.all) (hl : e.live = true) {wr w2 : World} {Ot : Nat → Prop} {li : Nms} {q : Option Addr} {c : Nat} {fr : List Nat}
    (D : Dst w wr x tb lb sb most seed R own d.all d.sl e.nums.length Ot li q c fr) (hm : MapL w2 lb n (mdel lm e.id)) (hg : wr.grownBy w2 (some lb)) (hrest : relsM l0 e.nums = (li, fr)) (hiw : Iw most R ⟨(relsM d.nm e.nums).1, d.all.map (deadE e.id), d.sl⟩) :
    Ry w2 x tb lb sb most seed R n (ownT own Ot) Rd (mdel lm e.id) sm li ⟨(relsM d.nm e.nums).1, d.all.map (deadE e.id), d.sl⟩ ∧ Only (fun g => own g ≠ none) w w2 := by
  have hnl : ¬ Ot lb := fun ho => by
    rcases D.ot lb ho with h1 | h1
    · rw [h.ol] at h1; cases h1
    · have := h.lv.mp.lt; omega
  have hxlb : x ≠ lb := fun e => by have := h.ox; rw [e, h.ol] at this; cases this
  have og : Only (fun g => g = lb) wr w2 := Only.of_grown (S := fun g => g = lb) hg rfl
  have ho : Only (fun g => own g = some 0 ∨ own g = some 1 ∨ own g = some 3) w w2 := (D.only.more (S' := fun g => own g = some 0 ∨ own g = some 1 ∨ own g = some 3) (fun g hg => .inl (by rcases hg with hg | hg; exact .inl hg; exact .inr (.inr hg)))).trans og (fun g hg => .inl (by rw [hg]; exact .inr (.inl h.ol)))
  have hback : ∀ y ∈ d.all.map (deadE e.id), y.live = true → y ∈ d.all ∧ y.id ≠ e.id := by
    intro y hy hyl
    obtain ⟨z, hz, rfl⟩ := List.mem_map.1 hy
    unfold deadE at hyl ⊢
    split at hyl
    · cases hyl
    · rename_i hne
      rw [if_neg hne]
      exact ⟨hz, hne⟩
  have hnq := Nq.relsM (ns := e.nums) h.nq
  rw [hrest] at hnq
  have hrd : ∀ g, Rd g → ¬ (own g = some 0 ∨ own g = some 1 ∨ own g = some 3) := fun g hg hs => by
    have := (h.rd g hg).1
    rcases hs with hs | hs | hs <;> (rw [this] at hs; cases hs)
  refine ⟨⟨?_, ⟨Ot, D.tab.only og (fun g hg e => hnl (by rw [← e]; exact hg)), fun g hg => ownT_yes hg⟩, hnq.2, D.wf, ⟨hm, fun id' => ?_, fun y hy hyl => ?_⟩, ?_, ownT_old D.ot h.ox h.bk.lt, ownT_old D.ot h.ol h.lv.mp.lt, ownT_old D.ot h.os h.sv.mp.lt, fun g k hgk => ?_, fun g hgr => ?_, hiw, ⟨h.ln.1, ?_⟩, h.ms, fun y hy => ?_⟩, ho.more (fun g hg => .inl (by rcases hg with hg | hg | hg <;> (rw [hg]; simp)))⟩
  · have := D.bk.only og hxlb
    show Blk w2 x _ #[_, .int .u64 (lastE (d.all.map (deadE e.id)) : Int), _, _, _, .int .i64 (wrongX (d.all.map (deadE e.id)) d.sl : Int)]
    rw [lastE_dead, h.iw.wrong_drop he hl, Int.natCast_add]
    exact this
  · rw [mhas_del, h.lv.has id', liveE_dead]
  · obtain ⟨h1, h2⟩ := hback y hy hyl
    rw [mget_del_other h2]
    exact ⟨(h.lv.at_ y h1 hyl).1.only ho hrd, (h.lv.at_ y h1 hyl).2.only ho hrd⟩
  · have h5 := h.sv.only ho (fun e => by rw [h.os] at e; rcases e with e | e | e <;> (injection e with e; omega)) (fun g k hg e => by rw [hg] at e; rcases e with e | e | e <;> (injection e with e; omega))
    exact ⟨h5.mp, h5.has, fun k hk => ⟨(h5.at_ k hk).1, fun g hg => ownT_old D.ot ((h5.at_ k hk).2 g hg) (h.olt g _ ((h.sv.at_ k hk).2 g hg))⟩⟩
  · by_cases hO : Ot g
    · exact Nat.lt_of_lt_of_le (D.tab.lt hO) og.size
    · rw [ownT_no hO] at hgk
      exact Nat.lt_of_lt_of_le (h.olt g k hgk) ho.size
  · exact ⟨ownT_none D.ot (h.rd g hgr).1 (h.rd g hgr).2, Nat.lt_of_lt_of_le (h.rd g hgr).2 ho.size⟩
  · show (d.all.map (deadE e.id)).length ≤ n
    rw [List.length_map]
    exact h.ln.2
  · obtain ⟨z, hz, rfl⟩ := List.mem_map.1 hy
    rw [deadE_id]
    exact h.lb64 z hz
set_option maxHeartbeats 4000000 in
set_option maxRecDepth 100000 in
theorem drop_yes (h : Ry w x tb lb sb most seed R n own Rd lm sm l0 d) (hn : n ≤ 100000) (hR : R ≤ 2147483647) (id : Nat) (hid : id ≤ 18446744073709551615) {e : En} (he : getE d.all id = some e) :
    Calls Tryz.prog 45 #[.pointer (some ⟨x, 0, none⟩), .int .u64 (id : Int)] w (DropP w x most seed R n (fun g => own g ≠ none) Rd (d.drop id)) := by
  have hl : liveE d.all id = true := by unfold liveE; rw [he]; rfl
  have HF := Lib.hid (rvfind_yes h id hid hl)
  obtain ⟨_, hro, _, hnl⟩ := h.ent hl
  have hnums : numsE d.all id = e.nums := by unfold numsE; rw [he]
  rw [hnums] at hro hnl
  have HY := Lib.hid h
  have HE := Lib.hid he
  have hxl := h.bk.lt
  have hwl := wrong_le d.all d.sl
  have hln := h.ln.1
  have hms := h.ms.1
  obtain ⟨Ot0, ht0, hot0⟩ := h.tab
  obtain ⟨nums, hnu⟩ : ∃ nums, e.nums = nums := ⟨_, rfl⟩
  rw [hnu] at hro hnl
  have HNU := Lib.hid hnu
  have HRO := Lib.hid hro
  have HST0 : Hid (Dst w w x tb lb sb most seed R own d.all d.sl 0 Ot0 l0 none 0 []) := ⟨by have := h.bk; simpa using this, ht0, fun g hg => .inl (hot0 g hg), World.ownsRow_nil _ _ _ _, fun g hg => by simp [Value.ownBlock] at hg, Only.refl _ _, h.wf, h.ox, h.bk.lt⟩
  generalize mget entZ lm id = z at *
  obtain ⟨⟨p1, n1, k1⟩, ⟨p2, n2, k2⟩⟩ := z
  obtain ⟨N, hN⟩ : ∃ N, nums.length = N := ⟨_, rfl⟩
  rw [hN] at hnl
  have HN := Lib.hid hN
  have hn2 : n2 = N := by
    obtain ⟨p, cap, hv, _, _⟩ := hro.rd
    injection hv with _ h2 _
    rw [List.length_map, hN] at h2
    exact h2
  subst hn2
  have hDROP : Hid (d.drop id = (⟨(relsM d.nm nums).1, d.all.map (deadE id), d.sl⟩, (relsM d.nm nums).2, 0)) := by
    unfold Hid Dx.drop
    rw [he, ← hnu]
  have HIW : Hid (Iw most R (d.drop id).1) := h.iw.drop id
  rw [hDROP.out] at HIW ⊢
  obtain ⟨i0, hi, hp0⟩ := Option.map_eq_some_iff.1 intInfo
  have hz0 : i0.zero = some (.int .i64 0) := congrArg (·.1) hp0
  have hz1 : i0.size = 1 := congrArg (·.2.1) hp0
  have hz2 : i0.bytes = 8 := congrArg (·.2.2) hp0
  clear h he hl hro ht0 hot0 hnums hnu hN hp0
  go_enter Tryz.func45, Tryz.ntmps45
  go_wp2_with (go_at_call 60; refine HF.out.mono ?_; rintro e w1 ⟨rfl, b1⟩)
  have hb1 := b1.alloc b1.size (.cells #[.slice p1 n1 k1, .slice p2 n2 k2] 112)
  have HST1 := Lib.hid (HST0.out.below hb1)
  have HB1 := Lib.hid hb1
  generalize w1.alloc (.cells #[.slice p1 n1 k1, .slice p2 n2 k2] 112) = W1 at *
  clear b1 hb1 HST0
  go_loopg [8, 25] n2 (fun r s8 s25 wr => ∃ (k : Nat) (Ot : Nat → Prop) (li : Nms) (q : Option Addr) (c nf : Nat) (fr : List Nat), r + k = n2 ∧ s25 = .int .i64 (k : Int) ∧ nf = fr.length ∧ s8 = .slice q nf c ∧ Dst w wr x tb lb sb most seed R own d.all d.sl k Ot li q c fr ∧ relsM l0 nums = ((relsM li (nums.drop k)).1, fr ++ (relsM li (nums.drop k)).2) ∧ nf ≤ k)
  case atStart => exact ⟨0, Ot0, l0, none, 0, 0, [], by omega, rfl, rfl, rfl, HST1.out, by simp, Nat.le_refl _⟩
  case round =>
    obtain ⟨k, Ot, li, q, c, nf, fr, hk, rfl, hnf, rfl, hst, hrest, hnk⟩ := hrel
    have HK := Lib.hid hk
    have HNF := Lib.hid hnf
    have HST := Lib.hid hst
    have HREST := Lib.hid hrest
    have hkn : k ≤ n2 := by omega
    have x0 := hst.bk.cell 0
    have x2 := hst.bk.cell 2
    simp only [List.getElem?_toArray, List.getElem?_cons_zero, List.getElem?_cons_succ] at x0 x2
    clear hk hst hnf hrest
    by_cases hlt : k < n2
    · have hlt2 : k < nums.length := by rw [HN.out]; exact hlt
      have hcell : ∃ blk off, p2 = some ⟨blk, off, none⟩ ∧ wr.cell? ⟨blk, off + k, none⟩ = some (.int .i64 (nums[k] : Int)) := by
        have ho : Only (fun g => own g = some 0 ∨ own g = some 3) w wr := HST.out.only
        have hrd := HRO.out.only ho (fun g hg hs => by have := (HY.out.rd g hg).1; rcases hs with hs | hs <;> (rw [this] at hs; cases hs))
        obtain ⟨p, cap, hv, _, h0 | ⟨blk, off, hp, _, _, hc⟩⟩ := hrd.rd
        · rw [List.length_map] at h0; omega
        · injection hv with h2 _ _
          refine ⟨blk, off, h2.trans hp, hc k _ ?_⟩
          rw [List.getElem?_map, List.getElem?_eq_getElem hlt2]
          rfl
      obtain ⟨blk, off, rfl, hc⟩ := hcell
      obtain ⟨u, hu⟩ : ∃ u, nums[k] = u := ⟨_, rfl⟩
      rw [hu] at hc
      have hdrop : nums.drop k = u :: nums.drop (k + 1) := by rw [← hu]; exact List.drop_eq_getElem_cons hlt2
      rw [hdrop] at HREST
      have hrest2 := rels_rest HREST.out
      have HREL := Lib.hid (rel_any HST.out.tab hms HST.out.wf hR (u : Int))
      have w5e : IntKind.i64.wrap ((wrongX d.all d.sl : Int) + (k : Int) + 1) = (wrongX d.all d.sl : Int) + ((k + 1 : Nat) : Int) := by rw [IntWalk.i64_in _ (by omega)]; omega
      clear hu hdrop HREST
      cases hgone : (relM li (u : Int)).2.1 with
      | false =>
        rw [hgone] at hrest2
        have HR2 := Lib.hid hrest2
        unfold RelP at HREL
        rw [hgone] at HREL
        clear hrest2 hgone x2
        go_wp2_with (go_at_call 65; refine HREL.out.mono ?_; rintro e w2 ⟨O', rfl, t', o', n'⟩; have D2 := Lib.hid (HST.out.rel t' o' n'); have y5 := D2.out.bk.cell 5; have fx5 := D2.out.bk.frozen 5; simp only [List.getElem?_toArray, List.getElem?_cons_zero, List.getElem?_cons_succ] at y5; clear t' o' n')
        go_roundg (n2 - (k + 1))
        case measure => have := HK.out; omega
        case rel => exact ⟨k + 1, O', _, q, c, nf, fr, by omega, by go_num, HNF.out, rfl, D2.out.wrong, HR2.out, by omega⟩
      | true =>
        rw [hgone] at hrest2
        have HR2 := Lib.hid hrest2
        unfold RelP at HREL
        rw [hgone] at HREL
        clear hrest2 hgone x2
        go_wp2_with (first
          | (go_at_call 65; refine HREL.out.mono ?_; rintro e w2 ⟨O', rfl, t', o', n'⟩; have D2 := Lib.hid (HST.out.rel t' o' n'); have HNF2 := HNF.out; subst HNF2; clear t' o' n')
          | (at_builtin; refine wpList_append_own_at _ rfl _ _ 40 rfl w.heap.size 3 i0 (.int .i64 0) 1 8 Tryz.underlying40 hi hz0 hz1 hz2 rfl (by decide) _ _ _ rfl (D2.out.row.alloc _) ⟨w2.heap.size, 0, none⟩ 1 1 [.int .i64 (u : Int)] rfl rfl ?c1 ?c2 ?c3 ?c4 ?c5 ?_))
        case c1 => exact cell_one_new _ _ _
        case c2 => exact one_int _ _
        case c3 => unfold maxLen; omega
        case c4 => omega
        case c5 => have := D2.out.only.size; simp; omega
        intro v' w3 hown hg3 _ hblk
        obtain ⟨q', c', rfl⟩ := owns_form hown
        have D3 := Lib.hid (D2.out.app hown hg3 (fun z hz => by
          rcases hblk with h1 | h1
          · exact .inl (h1.symm.trans hz)
          · rw [hz] at h1
            injection h1 with h1
            exact .inr (by first | omega | (simp at h1; omega))))
        have y5 := D3.out.bk.cell 5
        have y0 := D3.out.bk.cell 0
        have fx5 := D3.out.bk.frozen 5
        simp only [List.getElem?_toArray, List.getElem?_cons_zero, List.getElem?_cons_succ] at y5 y0
        clear hown hg3 hblk D2
        go_wp2_with fail
        go_roundg (n2 - (k + 1))
        case measure => have := HK.out; omega
        case rel => exact ⟨k + 1, O', _, q', c', fr.length + 1, fr ++ [u], by omega, by go_num, by simp, rfl, D3.out.wrong, HR2.out, by omega⟩
    · obtain rfl : k = n2 := by omega
      have hnil : nums.drop k = [] := List.drop_of_length_le (by rw [HN.out]; exact Nat.le_refl _)
      rw [hnil] at HREST
      go_wp2_with (at_delete; refine wpList_delete_v (val := entV) (q := .u64) rfl _ _ 60 112 rfl Tryz.underlying22 Tryz.underlying60 rfl (mapv_turn HY.out.lv.mp (HST.out.only.block lb HY.out.lv.mp.lt (fun e => by rcases e with e | e <;> (rw [HY.out.ol] at e; injection e with e; omega)))) id (wf_u64 hid) rfl ?_; intro w2 m2 g2; have M2 := Lib.hid m2; have G2 := Lib.hid g2; clear m2 g2)
      have hnf := HNF.out
      subst hnf
      go_ret2
      obtain ⟨he1, he2, he3⟩ := getE_some HE.out
      have hr := HREST.out
      rw [show relsM li [] = (li, []) from rfl, List.append_nil] at hr
      have D := HST.out
      rw [← HN.out, ← HNU.out] at D
      have M2 := M2.out
      rw [← HNU.out] at hr ⊢
      rw [← he2] at M2
      have hiw := HIW.out
      rw [← HNU.out, ← he2] at hiw
      obtain ⟨hry, hon⟩ := HY.out.redrop he1 he3 D M2 G2.out hr hiw
      have hnq := (Nq.relsM (ns := e.nums) HY.out.nq).1
      rw [hr] at hnq
      rw [← he2]
      refine ⟨_, fun g => ownT own Ot g ≠ none, rfl, ?_, ⟨tb, lb, sb, _, _, sm, _, hry, fun g => Iff.rfl⟩, ⟨hon, fun g hg => ?_⟩, fun g hg => ?_⟩
      · rw [← hnq]
        refine D.row.kept G2.out ?_
        rcases hv : (Value.slice q fr.length c).ownBlock with _ | z
        · exact .inl rfl
        · refine .inr (fun e => ?_)
          have h1 := (D.row.lt z hv).1
          have h2 := HY.out.lv.mp.lt
          injection e with e
          omega
      · by_cases hO : Ot g
        · rcases D.ot g hO with h1 | h1
          · exact .inl (by rw [h1]; simp)
          · exact .inr h1
        · rw [ownT_no hO] at hg
          exact .inl hg
      · have h1 := D.off g hg
        have h2 := (D.row.lt g hg).1
        rintro (h3 | h3)
        · rw [ownT_no h1] at h3
          obtain ⟨i, hi⟩ := Option.ne_none_iff_exists'.1 h3
          have := HY.out.olt g i hi
          omega
        · have := (HY.out.rd g h3).2
          omega
end
/-- Drop, whatever the entry. -/
theorem rvdrop_any {w : World} {x : Nat} {most seed R : Int} {n : Nat} {O Rd : Nat → Prop} {d : Dx} (h : Ri w x most seed R n O Rd d) (hn : n ≤ 100000) (hR : R ≤ 2147483647) (id : Nat) (hid : id ≤ 18446744073709551615) :
    Calls Tryz.prog 45 #[.pointer (some ⟨x, 0, none⟩), .int .u64 (id : Int)] w (DropP w x most seed R n O Rd (d.drop id)) := by
  obtain ⟨tb, lb, sb, own, lm, sm, l0, h1, h2⟩ := h
  cases he : getE d.all id with
  | none =>
    have e : d.drop id = (d, [], 9) := by unfold Dx.drop; rw [he]
    rw [e]
    refine (drop_no h1 id hid (by unfold liveE; rw [he]; rfl)).mono ?_
    rintro e w' ⟨rfl, hb⟩
    exact ⟨_, O, rfl, World.ownsRow_nil _ _ _ _, ⟨tb, lb, sb, own, lm, sm, l0, h1.below hb, h2⟩, ⟨Only.of_below hb _, fun _ h => .inl h⟩, fun g hg => by simp [Value.ownBlock] at hg⟩
  | some e =>
    refine (drop_yes h1 hn hR id hid he).mono ?_
    rintro e' w' ⟨v, O', rfl, hv, hr, hg, ho⟩
    exact ⟨v, O', rfl, hv, hr, ⟨hg.only.more (fun g hg => .inl ((h2 g).2 hg)), fun g hg' => (hg.new g hg').imp (fun h => (h2 g).2 h) (fun h => h)⟩, ho⟩
end Go.Proofs.YtfpkeinknhijaaaGreat
/- An index of entries: what Add is made of. -/
namespace Go.Proofs.YtfpkeinknhijaaaGreat
set_option linter.unusedVariables false
open Go.RowKit Go.Maps Go.Sort

theorem tagOk_valid (x : List UInt8) : tagOk x = validB x := by
  unfold tagOk validB
  rw [Bool.eq_iff_iff, Bool.and_eq_true, decide_eq_true_eq, decide_eq_true_eq, decide_eq_true_eq]
theorem kIns_last : ∀ {l : List (List UInt8)} {x : List UInt8}, (∀ y ∈ l, y < x) → kIns x l = l ++ [x]
  | [], _, _ => rfl
  | y :: r, x, h => by
    unfold kIns
    rw [if_pos (h y List.mem_cons_self), kIns_last (fun z hz => h z (List.mem_cons_of_mem _ hz))]
    rfl
theorem kUniq_same {l : List (List UInt8)} (h : l.Pairwise (· < ·)) : kUniq l = l := by
  have : ∀ (n : Nat) (l : List (List UInt8)), l.length = n → l.Pairwise (· < ·) → kUniq l = l := by
    intro n
    induction n with
    | zero => intro l hl _; rw [List.eq_nil_of_length_eq_zero hl]; rfl
    | succ n ih =>
      intro l hl hp
      obtain ⟨r, x, rfl⟩ : ∃ r x, l = r ++ [x] := by
        have hne : l ≠ [] := fun e => by rw [e] at hl; cases hl
        exact ⟨l.dropLast, l.getLast hne, (List.dropLast_concat_getLast hne).symm⟩
      rw [List.pairwise_append] at hp
      rw [kUniq_snoc, ih r (by simpa using hl) hp.1, kIns_last (fun y hy => hp.2.2 y hy x (by simp))]
  exact this _ l rfl h
/-- The program's way to see whether tags are in order. -/
theorem tagsB_iff (ts : List (List UInt8)) : tagsB ts = true ↔ (kTags ts).2 = 0 ∧ (kTags ts).1 = ts := by
  unfold tagsB kTags
  have hall : ts.all tagOk = ts.all validB := by congr 1; funext x; exact tagOk_valid x
  rw [hall, Bool.and_eq_true, Bool.and_eq_true, decide_eq_true_eq, decide_eq_true_eq]
  constructor
  · rintro ⟨⟨h1, h2⟩, h3⟩
    rw [if_pos h1, kUniq_same h2, if_pos h3]
    exact ⟨rfl, rfl⟩
  · by_cases h1 : ts.all validB = true
    · rw [if_pos h1]
      split
      · rename_i h2
        rintro ⟨_, h3⟩
        simp only at h3
        have := kUniq_sorted ts
        rw [h3] at this h2
        exact ⟨⟨h1, this⟩, h2⟩
      · rintro ⟨h, _⟩; cases h
    · rw [if_neg h1]
      rintro ⟨h, _⟩; cases h
/-- Two lists of strings that read: the program's Equal. -/
theorem equalS_any (u v : Value) (l m : List (List UInt8)) (w : World) (hu : Reads w u (l.map encStr)) (hv : Reads w v (m.map encStr)) (hlm : l ≠ [] → m ≠ []) (hl : l.length ≤ 1000000) (hm : m.length ≤ 1000000) :
    Calls Tryz.prog 63 #[u, v] w fun e w' => e = .returned (.bool (decide (l = m))) ∧ Below w.heap.size w w' := by
  obtain ⟨p, cp, rfl, _, hu⟩ := hu
  obtain ⟨q, cq, rfl, _, hv⟩ := hv
  rw [List.length_map] at hu hv ⊢
  rw [List.length_map]
  rcases Nat.eq_zero_or_pos l.length with h0 | h0
  · have hl0 : l = [] := List.eq_nil_of_length_eq_zero h0
    subst hl0
    refine (Tryz.slices_Equal_string_empty p q cp m.length cq w (by omega)).mono ?_
    rintro e w' ⟨rfl, rfl⟩
    refine ⟨?_, Below.refl _ _⟩
    congr 2
    rw [Bool.eq_iff_iff, decide_eq_true_eq, decide_eq_true_eq]
    constructor
    · intro h; exact (List.eq_nil_of_length_eq_zero h).symm
    · intro h; rw [← h]; rfl
  · have hm0 := List.length_pos_iff.2 (hlm (List.length_pos_iff.1 h0))
    rcases hu with h1 | ⟨b1, o1, rfl, hb1, _, hc1⟩
    · omega
    rcases hv with h1 | ⟨b2, o2, rfl, hb2, _, hc2⟩
    · omega
    have hget : ∀ (z : List (List UInt8)) (j : Nat) (hj : j < (z.map fun x => (⟨x.toArray⟩ : ByteArray)).length), (z.map encStr)[j]? = some (.string ((z.map fun x => (⟨x.toArray⟩ : ByteArray)).getD j ByteArray.empty)) := by
      intro z j hj
      rw [List.length_map] at hj
      rw [List.getElem?_map, List.getElem?_eq_getElem hj, List.getD_eq_getElem?_getD, List.getElem?_map, List.getElem?_eq_getElem hj]
      rfl
    refine (Tryz.slices_Equal_string b1 o1 l.length cp b2 o2 m.length cq (l.map fun x => ⟨x.toArray⟩) (m.map fun x => ⟨x.toArray⟩) w (by simp) (by simp) (by omega) (by omega) (fun j hj => hc1 j _ (hget l j hj)) (fun j hj => hc2 j _ (hget m j hj))).mono ?_
    rintro e w' ⟨rfl, qq, rfl⟩
    refine ⟨?_, below_drewN (Below.refl _ _) _⟩
    congr 2
    rw [List.take_of_length_le (by simp), List.take_of_length_le (by simp), Bool.eq_iff_iff, decide_eq_true_eq, decide_eq_true_eq]
    constructor
    · intro h
      have := congrArg (List.map (fun b : ByteArray => b.data.toList)) h
      simpa [List.map_map, Function.comp_def] using this
    · intro h; rw [h]
section
variable {w w' : World} {x tb lb sb : Nat} {most seed R : Int} {n : Nat} {own : Nat → Option Nat} {Rd : Nat → Prop} {lm : List (Nat × (Slc × Slc))} {sm : List (Nat × Slc)} {l0 : Nms} {d : Dx}
variable {A : List En} {S : List (Nat × Nat)} {k : Nat} {Ot : Nat → Prop} {li : Nms} {q : Option Addr} {c : Nat} {fr : List Nat} {wr wr' : World}
theorem Dst.add (h : Dst w wr x tb lb sb most seed R own A S k Ot li q c fr) (hR : 0 ≤ R) {O' : Nat → Prop} {s : List UInt8} (ht : Tab wr' tb O' most seed (addM most li s).1) (ho : Only Ot wr wr') (hn : ∀ g, O' g → Ot g ∨ wr.heap.size ≤ g) : Dst w wr' x tb lb sb most seed (R + 1) own A S k O' (addM most li s).1 q c fr := by
  have hs := h.only.size
  refine ⟨h.bk.only ho h.nx, ht, fun g hg => ?_, ownsRow_only h.row ho h.off, fun g hg hO => ?_, ?_, h.wf.add (by omega) s, h.ox, h.xl⟩
  · rcases hn g hg with h1 | h1
    · exact h.ot g h1
    · exact .inr (by omega)
  · rcases hn g hO with h1 | h1
    · exact h.off g hg h1
    · have := (h.row.lt g hg).2; omega
  · exact h.only.trans ho (fun g hg => by
      rcases h.ot g hg with h1 | h1
      · exact .inl (.inr h1)
      · exact .inr h1)
/-- The row of the tags beside the table and the row of the numbers. -/
structure Tgs (w wr : World) (Ot : Nat → Prop) (qv tv : Value) (ts : List (List UInt8)) : Prop where
  row : wr.ownsRow w.heap.size 9 1 tv ts.length (ts.map encStr)
  off : ∀ g, tv.ownBlock = some g → ¬ Ot g ∧ qv.ownBlock ≠ some g
theorem Tgs.turn {qv tv : Value} {ts : List (List UInt8)} (h : Tgs w wr Ot qv tv ts) {O' : Nat → Prop} (ho : Only Ot wr wr') (hn : ∀ g, O' g → Ot g ∨ wr.heap.size ≤ g) : Tgs w wr' O' qv tv ts :=
  ⟨ownsRow_only h.row ho (fun g hg => (h.off g hg).1), fun g hg => ⟨fun hO => by
    rcases hn g hO with h1 | h1
    · exact (h.off g hg).1 h1
    · have := (h.row.lt g hg).2; omega, (h.off g hg).2⟩⟩
theorem Tgs.app {qv tv qv' : Value} {ts : List (List UInt8)} (h : Tgs w wr Ot qv tv ts) {o : Obj} (hg : (wr.alloc o).grownBy wr' qv.ownBlock) (hq : ∀ g, qv'.ownBlock = some g → qv.ownBlock = some g ∨ wr.heap.size ≤ g) : Tgs w wr' Ot qv' tv ts := by
  have ho : Only (fun g => qv.ownBlock = some g) wr wr' := (((Only.refl (fun g => qv.ownBlock = some g) wr).alloc o).trans (⟨hg.os, hg.tape, hg.output, hg.size, fun i hi hn => hg.block i hi (fun e => hn e.symm)⟩ : Only (fun g => qv.ownBlock = some g) _ _) (fun g hg => .inl hg))
  refine ⟨ownsRow_only h.row ho (fun g hg => (h.off g hg).2), fun g hg => ⟨(h.off g hg).1, fun e => ?_⟩⟩
  rcases hq g e with h1 | h1
  · exact (h.off g hg).2 h1
  · have := (h.row.lt g hg).2; omega
theorem Tgs.below {qv tv : Value} {ts : List (List UInt8)} (h : Tgs w wr Ot qv tv ts) (hb : Below wr.heap.size wr wr') : Tgs w wr' Ot qv tv ts := ⟨ownsRow_below h.row hb, h.off⟩
theorem adds_rest {most : Int} {l0 li : Nms} {ts r : List (List UInt8)} {ns : List Nat} {s : List UInt8} (h : addsM most l0 ts = ((addsM most li (s :: r)).1, ns ++ (addsM most li (s :: r)).2.1, (addsM most li (s :: r)).2.2)) :
    ((addM most li s).2.2 = 0 → addsM most l0 ts = ((addsM most (addM most li s).1 r).1, (ns ++ [(addM most li s).2.1.toNat]) ++ (addsM most (addM most li s).1 r).2.1, (addsM most (addM most li s).1 r).2.2)) ∧ ((addM most li s).2.2 ≠ 0 → addsM most l0 ts = ((addM most li s).1, ns, (addM most li s).2.2)) := by
  rw [h]
  constructor
  · intro he
    conv => lhs; unfold addsM
    rw [if_pos he]
    simp
  · intro he
    conv => lhs; unfold addsM
    rw [if_neg he]
    simp
def AddP_ (w : World) (x : Nat) (most seed R : Int) (n : Nat) (O Rd : Nat → Prop) (r : Dx × List Nat × Int) (e : Ending) (w' : World) : Prop :=
  ∃ v O' Rd', e = .returned (.tuple #[v, .int .i64 r.2.2]) ∧ w'.ownsRow w.heap.size 3 1 v r.2.1.length (numsV r.2.1) ∧ Ri w' x most seed (R + 16) (n + 16) O' Rd' r.1 ∧ Goes w O w' O' ∧ (∀ g, Rd' g → Rd g ∨ w.heap.size ≤ g) ∧ ∀ g, v.ownBlock = some g → ¬ (O' g ∨ Rd' g)
/-- Names are added and taken back: the index is what it was. -/
theorem Ry.back (h : Ry w x tb lb sb most seed R n own Rd lm sm l0 d) (hR : 0 ≤ R) (D : Dst w wr x tb lb sb most seed (R + 16) own d.all d.sl 0 Ot li q c fr) (hq : Nq li d.nm) : Ry wr x tb lb sb most seed (R + 16) n (ownT own Ot) Rd lm sm li d ∧ Only (fun g => own g ≠ none) w wr := by
  have hrd : ∀ g, Rd g → ¬ (own g = some 0 ∨ own g = some 3) := fun g hg hs => by
    have := (h.rd g hg).1
    rcases hs with hs | hs <;> (rw [this] at hs; cases hs)
  refine ⟨⟨by have := D.bk; simpa using this, ⟨Ot, D.tab, fun g hg => ownT_yes hg⟩, hq, D.wf, h.lv.only D.only (fun e => by rw [h.ol] at e; rcases e with e | e <;> (injection e with e; omega)) hrd, ?_, ownT_old D.ot h.ox h.bk.lt, ownT_old D.ot h.ol h.lv.mp.lt, ownT_old D.ot h.os h.sv.mp.lt, fun g k hgk => ?_, fun g hgr => ⟨ownT_none D.ot (h.rd g hgr).1 (h.rd g hgr).2, Nat.lt_of_lt_of_le (h.rd g hgr).2 D.only.size⟩, h.iw.mono (by omega), h.ln, h.ms, h.lb64⟩, D.only.more (fun g hg => .inl (by rcases hg with hg | hg <;> (rw [hg]; simp)))⟩
  · have h5 := h.sv.only D.only (fun e => by rw [h.os] at e; rcases e with e | e <;> (injection e with e; omega)) (fun g k hg e => by rw [hg] at e; rcases e with e | e <;> (injection e with e; omega))
    exact ⟨h5.mp, h5.has, fun k hk => ⟨(h5.at_ k hk).1, fun g hg => ownT_old D.ot ((h5.at_ k hk).2 g hg) (h.olt g _ ((h.sv.at_ k hk).2 g hg))⟩⟩
  · by_cases hO : Ot g
    · exact D.tab.lt hO
    · rw [ownT_no hO] at hgk
      exact Nat.lt_of_lt_of_le (h.olt g k hgk) D.only.size
/-- One more slot of a number: its row has grown, perhaps into a new block. -/
theorem Sv.push {T : List (Nat × Nat)} {o : Obj} {w5 w6 : World} (h : Sv w sb n own sm T) (hos : own sb = some 2) (hap : Apart sm) {k id : Nat} {v : Slc} (holt : ∀ g j, own g = some j → g < w.heap.size) (hsb : sb < w.heap.size)
    (hrow : w5.ownsRow 0 22 1 (slcV v) ((ofX T k).length + 1) (idsV (ofX T k) ++ [.int .u64 (id : Int)])) (hg5 : (w.alloc o).grownBy w5 (slcV (mget slcZ sm k)).ownBlock) (hblk : (slcV v).ownBlock = (slcV (mget slcZ sm k)).ownBlock ∨ (slcV v).ownBlock = some (w.heap.size + 1))
    (hm : MapN w6 sb (n + 1) (mput sm k v)) (hg6 : w5.grownBy w6 (some sb)) :
    ∃ own', (∀ g j, own g = some j → own' g = some j) ∧ (∀ g j, own' g = some j → own g = some j ∨ (g = w.heap.size + 1 ∧ 4 ≤ j)) ∧ (∀ g j, own' g = some j → g < w6.heap.size) ∧ Sv w6 sb (n + 1) own' (mput sm k v) (T ++ [(k, id)]) ∧ Only (fun g => own g = some 2 ∨ ∃ j, own g = some (j + 4)) w w6 := by
  have hold : ∀ g, (slcV (mget slcZ sm k)).ownBlock = some g → own g = some (k + 4) := fun g hg => by
    by_cases hk : ofX T k = []
    · have h1 := h.has k
      rw [hk] at h1
      rw [mget_none (by rw [h1]; rfl)] at hg
      simp [slcZ, Value.ownBlock] at hg
    · exact (h.at_ k hk).2 g hg
  have hsz5 : w.heap.size + 1 ≤ w5.heap.size := by have := hg5.size; simpa using this
  have o5 : Only (fun g => own g = some (k + 4)) w w5 := ((Only.refl (fun g => own g = some (k + 4)) w).alloc o).trans (⟨hg5.os, hg5.tape, hg5.output, hg5.size, fun i hi hn => hg5.block i hi (fun e => hn (hold i e.symm))⟩ : Only (fun g => own g = some (k + 4)) _ _) (fun g hg => .inl hg)
  have o6 : Only (fun g => own g = some 2 ∨ own g = some (k + 4)) w w6 := (o5.more (fun g hg => .inl (.inr hg))).trans (Only.of_grown (S := fun g => own g = some 2 ∨ own g = some (k + 4)) hg6 (.inl hos)) (fun g hg => .inl hg)
  have hof : ∀ j, ofX (T ++ [(k, id)]) j = if j = k then ofX T k ++ [id] else ofX T j := fun j => by
    rw [ofX_app, ofX_cons]
    by_cases e : j = k
    · subst e; rw [if_pos rfl, if_pos rfl]; rfl
    · rw [if_neg (fun h => e h.symm), if_neg e]; simp [ofX]
  have hrow6 : w6.ownsRow 0 22 1 (slcV v) ((ofX T k).length + 1) (idsV (ofX T k) ++ [.int .u64 (id : Int)]) := by
    refine hrow.kept hg6 (.inr (fun e => ?_))
    rcases hblk with h1 | h1
    · have h2 := hold sb (h1.symm.trans e)
      rw [hos] at h2
      injection h2 with h2
      omega
    · have := e.symm.trans h1
      injection this with this
      omega
  have hfin : ∀ own' : Nat → Option Nat, (∀ g j, own g = some j → own' g = some j) → (∀ g, (slcV v).ownBlock = some g → own' g = some (k + 4)) → Sv w6 sb (n + 1) own' (mput sm k v) (T ++ [(k, id)]) := fun own' he hv => by
    refine ⟨hm, fun j => ?_, fun j hj => ?_⟩
    · rw [mhas_put, h.has j, hof j]
      by_cases e : j = k
      · simp [e]
      · simp [e]
    · rw [hof j] at hj ⊢
      by_cases e : j = k
      · subst e
        rw [if_pos rfl, mget_put_same hap]
        refine ⟨?_, hv⟩
        rw [List.length_append]
        unfold idsV
        rw [List.map_append]
        exact hrow6
      · rw [if_neg e] at hj ⊢
        rw [mget_put_other hap e]
        obtain ⟨h1, h2⟩ := h.at_ j hj
        exact ⟨ownsRow_only h1 o6 (fun g hg hs => by have := h2 g hg; rcases hs with hs | hs <;> (rw [this] at hs; injection hs with hs; omega)), fun g hg => he g _ (h2 g hg)⟩
  have o6' : Only (fun g => own g = some 2 ∨ ∃ j, own g = some (j + 4)) w w6 := o6.more (fun g hg => .inl (by rcases hg with hg | hg; exact .inl hg; exact .inr ⟨k, hg⟩))
  have hs6 : w5.heap.size ≤ w6.heap.size := hg6.size
  by_cases hb : (slcV v).ownBlock = some (w.heap.size + 1)
  · refine ⟨fun g => if g = w.heap.size + 1 then some (k + 4) else own g, fun g j hj => ?_, fun g j hj => ?_, fun g j hj => ?_, hfin _ (fun g j hj => ?_) (fun g hg => ?_), o6'⟩
    · have := holt g j hj
      dsimp only
      rw [if_neg (by omega)]; exact hj
    · dsimp only at hj
      split at hj
      · injection hj with hj
        exact .inr ⟨‹_›, by omega⟩
      · exact .inl hj
    · dsimp only at hj
      split at hj
      · have := (hrow.lt _ hb).2; omega
      · have := holt g j hj; omega
    · have := holt g j hj
      rw [if_neg (by omega)]; exact hj
    · rw [hb] at hg
      injection hg with hg
      rw [if_pos hg.symm]
  · have hb2 := hblk.resolve_right hb
    exact ⟨own, fun g j hj => hj, fun g j hj => .inl hj, fun g j hj => by have := holt g j hj; omega, hfin own (fun g j hj => hj) (fun g hg => hold g (hb2.symm.trans hg)), o6'⟩
theorem Sv.slc {T : List (Nat × Nat)} (h : Sv w sb n own sm T) (k : Nat) : w.ownsRow 0 22 1 (slcV (mget slcZ sm k)) (ofX T k).length (idsV (ofX T k)) := by
  by_cases hk : ofX T k = []
  · have h1 := h.has k
    rw [hk] at h1 ⊢
    rw [mget_none (by rw [h1]; rfl)]
    exact World.ownsRow_nil _ _ _ _
  · exact (h.at_ k hk).1
/-- An entry is added: what lies in memory is the document's. -/
theorem Ry.readd (h : Ry w x tb lb sb most seed R n own Rd lm sm l0 d) (hR : 0 ≤ R) {id : Nat} (hid : id ≤ 18446744073709551615) (hlast : lastE d.all < id) {ts : List (List UInt8)} {ns : List Nat} {own1 ownJ : Nat → Option Nat} {smJ : List (Nat × Slc)} {W3 W4 W7 : World} {N cu : Nat} {pu : Option Addr} {lD : Nms}
    (D : Dst w W3 x tb lb sb most seed (R + 16) own d.all d.sl 0 Ot li q c ns) (G : Tgs w W3 Ot (.slice q ns.length c) (.slice pu ts.length cu) ts) (ho1 : own1 = ownT own Ot) (hnq : Nq li lD)
    (hsv : Sv W4 sb (n + 16) ownJ smJ (d.sl ++ ns.map (fun m => (m, id)))) (hJ1 : ∀ g i, own1 g = some i → ownJ g = some i) (hJ2 : ∀ g i, ownJ g = some i → own1 g = some i ∨ (W3.heap.size ≤ g ∧ 4 ≤ i)) (hJ3 : ∀ g i, ownJ g = some i → g < W4.heap.size) (hJo : Only (fun g => own1 g = some 2 ∨ ∃ i, own1 g = some (i + 4)) W3 W4)
    (o7 : Only (fun g => g = x ∨ g = lb) W4 W7) (hb7 : Blk W7 x 63 #[.pointer (some ⟨tb, 0, none⟩), .int .u64 (id : Int), .map (some lb), .map (some sb), .int .i64 ((d.sl ++ ns.map (fun m => (m, id))).length : Int), .int .i64 (wrongX d.all d.sl : Int)])
    (hm7 : MapL W7 lb (n + 16) (mput lm id ((pu, ts.length, cu), (q, ns.length, c)))) (hiw : Iw most (R + 16) ⟨lD, d.all ++ [⟨id, ts, ns, true⟩], d.sl ++ ns.map (fun m => (m, id))⟩) (hns : ns.length ≤ 16) (htl : ts.length ≤ 16) :
    ∃ Rd', Ry W7 x tb lb sb most seed (R + 16) (n + 16) ownJ Rd' (mput lm id ((pu, ts.length, cu), (q, ns.length, c))) smJ li ⟨lD, d.all ++ [⟨id, ts, ns, true⟩], d.sl ++ ns.map (fun m => (m, id))⟩ ∧ Only (fun g => own g ≠ none) w W7 ∧ (∀ g, ownJ g ≠ none → own g ≠ none ∨ w.heap.size ≤ g) ∧ (∀ g, Rd' g → Rd g ∨ w.heap.size ≤ g) ∧ W7.ownsRow w.heap.size 3 1 (.slice q ns.length c) ns.length (numsV ns) := by
  have hs3 := D.only.size
  have hs4 := hJo.size
  have hs7 := o7.size
  have hlb := h.lv.mp.lt
  have hsbl := h.sv.mp.lt
  have hxl := h.bk.lt
  have ox1 : own1 x = some 0 := by rw [ho1]; exact ownT_old D.ot h.ox hxl
  have ol1 : own1 lb = some 1 := by rw [ho1]; exact ownT_old D.ot h.ol hlb
  have os1 : own1 sb = some 2 := by rw [ho1]; exact ownT_old D.ot h.os hsbl
  have on1 : ∀ g, w.heap.size ≤ g → ¬ Ot g → own1 g = none := fun g hg hO => by
    rw [ho1, ownT_no hO]
    cases ho : own g with
    | none => rfl
    | some i => have := h.olt g i ho; omega
  have olt1 : ∀ g i, own1 g = some i → g < W3.heap.size := fun g i hg => by
    rw [ho1] at hg
    by_cases hO : Ot g
    · exact D.tab.lt hO
    · rw [ownT_no hO] at hg
      exact Nat.lt_of_lt_of_le (h.olt g i hg) hs3
  have rd1 : ∀ g, Rd g → own1 g = none := fun g hg => by rw [ho1]; exact ownT_none D.ot (h.rd g hg).1 (h.rd g hg).2
  have hxlb : x ≠ lb := fun e => by have := h.ox; rw [e, h.ol] at this; cases this
  -- what a block that the index does not own keeps
  have hoff : ∀ g, own1 g = none → g < W3.heap.size → ownJ g = none := fun g hg hl => by
    cases hj : ownJ g with
    | none => rfl
    | some i =>
      rcases hJ2 g i hj with h1 | h1
      · rw [hg] at h1; cases h1
      · omega
  have okeep : Only (fun g => own1 g = some 0 ∨ own1 g = some 1 ∨ own1 g = some 2 ∨ ∃ i, own1 g = some (i + 4)) W3 W7 := (hJo.more (S' := fun g => own1 g = some 0 ∨ own1 g = some 1 ∨ own1 g = some 2 ∨ ∃ i, own1 g = some (i + 4)) (fun g hg => .inl (.inr (.inr hg)))).trans o7 (fun g hg => .inl (by
    rcases hg with hg | hg
    · rw [hg]; exact .inl ox1
    · rw [hg]; exact .inr (.inl ol1)))
  have knone : ∀ g, own1 g = none → ¬ (own1 g = some 0 ∨ own1 g = some 1 ∨ own1 g = some 2 ∨ ∃ i, own1 g = some (i + 4)) := fun g hg hs => by
    rcases hs with hs | hs | hs | ⟨i, hs⟩ <;> (rw [hg] at hs; cases hs)
  have htblk : ∀ g, (Value.slice pu ts.length cu).ownBlock = some g → own1 g = none ∧ g < W3.heap.size ∧ w.heap.size ≤ g := fun g hg => ⟨on1 g (G.row.lt g hg).1 (G.off g hg).1, (G.row.lt g hg).2, (G.row.lt g hg).1⟩
  have hnblk : ∀ g, (Value.slice q ns.length c).ownBlock = some g → own1 g = none ∧ g < W3.heap.size ∧ w.heap.size ≤ g := fun g hg => ⟨on1 g (D.row.lt g hg).1 (D.off g hg), (D.row.lt g hg).2, (D.row.lt g hg).1⟩
  have hrt := ownsRow_only G.row okeep (fun g hg => knone g (htblk g hg).1)
  have hrn := ownsRow_only D.row okeep (fun g hg => knone g (hnblk g hg).1)
  have hall : Only (fun g => own g ≠ none) w W7 := (D.only.more (S' := fun g => own g ≠ none) (fun g hg => .inl (by rcases hg with hg | hg <;> (rw [hg]; simp)))).trans okeep (fun g hg => by
    by_cases hO : Ot g
    · rcases D.ot g hO with h1 | h1
      · exact .inl (by rw [h1]; simp)
      · exact .inr h1
    · rw [ho1, ownT_no hO] at hg
      exact .inl (by rcases hg with hg | hg | hg | ⟨i, hg⟩ <;> (rw [hg]; simp)))
  have hlvw : ∀ g, Rd g → ¬ (own g = some 0 ∨ own g = some 3) := fun g hg hs => by
    have := (h.rd g hg).1
    rcases hs with hs | hs <;> (rw [this] at hs; cases hs)
  have hlv3 := h.lv.only D.only (fun e => by rw [h.ol] at e; rcases e with e | e <;> (injection e with e; omega)) hlvw
  have hap : Apart lm := h.lv.mp.apart Tryz.underlying22
  have hlive : ∀ e ∈ d.all, e.id ≠ id := fun e he e2 => by have := last_le h.iw.ids he; omega
  refine ⟨fun g => Rd g ∨ (Value.slice pu ts.length cu).ownBlock = some g ∨ (Value.slice q ns.length c).ownBlock = some g, ⟨?_, ?_, hnq, D.wf, ⟨hm7, fun id' => ?_, fun e he hl => ?_⟩, ?_, hJ1 x 0 ox1, hJ1 lb 1 ol1, hJ1 sb 2 os1, fun g i hg => Nat.lt_of_lt_of_le (hJ3 g i hg) hs7, fun g hg => ?_, hiw, ⟨?_, ?_⟩, h.ms, fun e he => ?_⟩, hall, fun g hg => ?_, fun g hg => ?_, hrn⟩
  · show Blk W7 x _ #[_, .int .u64 (lastE (d.all ++ [⟨id, ts, ns, true⟩]) : Int), _, _, _, .int .i64 (wrongX (d.all ++ [⟨id, ts, ns, true⟩]) (d.sl ++ ns.map (fun m => (m, id))) : Int)]
    rw [lastE_snoc, h.iw.wrong_add hlast]
    exact hb7
  · exact ⟨Ot, D.tab.only okeep (fun g hg hs => by
      have : own1 g = some 3 := by rw [ho1]; exact ownT_yes hg
      rcases hs with hs | hs | hs | ⟨i, hs⟩ <;> (rw [this] at hs; injection hs with hs; omega)), fun g hg => hJ1 g 3 (by rw [ho1]; exact ownT_yes hg)⟩
  · rw [mhas_put, h.lv.has id', liveE_snoc rfl]
    by_cases e : id' = id
    · simp [e]
    · have e2 : ¬ id = id' := fun h => e h.symm
      simp [e, e2]
  · rcases List.mem_append.1 he with he | he
    · have hne := hlive e he
      rw [mget_put_other hap hne]
      have h5 := hlv3.at_ e he hl
      have hrd5 : ∀ g, Rd g → ¬ (own1 g = some 0 ∨ own1 g = some 1 ∨ own1 g = some 2 ∨ ∃ i, own1 g = some (i + 4)) := fun g hg => knone g (rd1 g hg)
      have h6 := h5.1.only okeep hrd5
      have h7 := h5.2.only okeep hrd5
      exact ⟨⟨h6.rd, fun g hg => .inl (h6.blk g hg)⟩, ⟨h7.rd, fun g hg => .inl (h7.blk g hg)⟩⟩
    · simp at he
      subst he
      rw [mget_put_same hap]
      exact ⟨⟨Reads.of_own (by rw [List.length_map]; exact hrt) (by rw [List.length_map]; show ts.length ≤ _; omega), fun g hg => .inr (.inl hg)⟩, ⟨Reads.of_own (by rw [List.length_map]; exact hrn) (by rw [List.length_map]; show ns.length ≤ _; omega), fun g hg => .inr (.inr hg)⟩⟩
  · exact hsv.only o7 (fun e => by
      rcases e with e | e
      · rw [e] at os1; rw [os1] at ox1; cases ox1
      · rw [e] at os1; rw [os1] at ol1; cases ol1) (fun g k hg e => by
      rcases e with e | e
      · rw [e, hJ1 x 0 ox1] at hg; injection hg with hg; omega
      · rw [e, hJ1 lb 1 ol1] at hg; injection hg with hg; omega)
  · rcases hg with hg | hg | hg
    · exact ⟨hoff g (rd1 g hg) (by have := (h.rd g hg).2; omega), by have := (h.rd g hg).2; omega⟩
    · obtain ⟨a1, a2, _⟩ := htblk g hg
      exact ⟨hoff g a1 a2, by omega⟩
    · obtain ⟨a1, a2, _⟩ := hnblk g hg
      exact ⟨hoff g a1 a2, by omega⟩
  · show (d.sl ++ ns.map (fun m => (m, id))).length ≤ n + 16
    rw [List.length_append, List.length_map]
    have := h.ln.1
    omega
  · show (d.all ++ [(⟨id, ts, ns, true⟩ : En)]).length ≤ n + 16
    rw [List.length_append]
    have := h.ln.2
    simp
    omega
  · rcases List.mem_append.1 he with he | he
    · exact h.lb64 e he
    · simp at he; subst he; exact hid
  · obtain ⟨i, hi⟩ := Option.ne_none_iff_exists'.1 hg
    rcases hJ2 g i hi with h1 | h1
    · by_cases hO : Ot g
      · rcases D.ot g hO with h2 | h2
        · exact .inl (by rw [h2]; simp)
        · exact .inr h2
      · rw [ho1, ownT_no hO] at h1
        exact .inl (by rw [h1]; simp)
    · exact .inr (by omega)
  · rcases hg with hg | hg | hg
    · exact .inl hg
    · exact .inr (htblk g hg).2.2
    · exact .inr (hnblk g hg).2.2
end
end Go.Proofs.YtfpkeinknhijaaaGreat
namespace Go.Proofs.YtfpkeinknhijaaaGreat
set_option linter.unusedVariables false
open Go.RowKit Go.Maps Go.Sort

@[irreducible] def appS (t : Array TypeId) (ty : TypeId) (v : Array Value) : Sem Value := Builtin.append_ t ty v
theorem appS_eq (t : Array TypeId) (ty : TypeId) (v : Array Value) : Builtin.append_ t ty v = appS t ty v := by unfold appS; rfl
attribute [local go_sem ↓] appS_eq
section
variable {w : World} {x tb lb sb : Nat} {most seed R : Int} {n : Nat} {own : Nat → Option Nat} {Rd : Nat → Prop} {lm : List (Nat × (Slc × Slc))} {sm : List (Nat × Slc)} {l0 : Nms} {d : Dx}
set_option maxHeartbeats 2000000 in
set_option maxRecDepth 100000 in
theorem add_arg (h : Ry w x tb lb sb most seed R n own Rd lm sm l0 d) (id : Nat) (hid : id ≤ 18446744073709551615) (v : Value) (ts : List (List UInt8)) (hv : Reads w v (ts.map encStr)) (ht : ts.length ≤ 1000) (hbad : id ≤ lastE d.all ∨ tagsB ts = false) :
    Calls Tryz.prog 41 #[.pointer (some ⟨x, 0, none⟩), .int .u64 (id : Int), v] w fun e w' => e = .returned (.tuple #[.slice none 0 0, .int .i64 2]) ∧ Below w.heap.size w w' := by
  obtain ⟨d0, d1, d2, d3, d4, d5⟩ := h.cells
  have HN := Lib.hid (fun W => @rvnone_no W x tb)
  have HK := Lib.hid (keyTags_any v ts w hv (by omega))
  have hkl : (kTags ts).1.length ≤ 1000 := by
    unfold kTags
    split
    · split
      · show (kUniq ts).length ≤ 1000; omega
      · exact Nat.zero_le _
    · exact Nat.zero_le _
  have hxl := h.bk.lt
  have HV := Lib.hid hv
  by_cases hi : id ≤ lastE d.all
  · have e1 : decide (id ≤ lastE d.all) = true := decide_eq_true hi
    generalize kTags ts = K at *
    obtain ⟨K1, K2⟩ := K
    clear h hbad d2 d3 d4 d5
    go_enter Tryz.func41, Tryz.ntmps41
    go_wp2_with (first
      | (go_at_call 47; refine (HN.out _ (by assumption)).mono ?_; rintro e w1 ⟨rfl, rfl⟩)
      | (go_at_call 62; refine HK.out.mono ?_; rintro e w1 ⟨u, rfl, hu, b1⟩; have d1 := (b1.cell (p := ⟨x, 1, none⟩) hxl).trans d1))
    go_ret2
    exact ⟨rfl, b1⟩
  · have e1 : decide (id ≤ lastE d.all) = false := decide_eq_false hi
    have htb := hbad.resolve_left hi
    by_cases he : (kTags ts).2 = 0
    · have hne : (kTags ts).1 ≠ ts := fun e => by
        have := (tagsB_iff ts).2 ⟨he, e⟩
        rw [htb] at this
        cases this
      have e2 : ((kTags ts).2 != 0) = false := by simpa using he
      have hlm : (kTags ts).1 ≠ [] → ts ≠ [] := fun h1 e => by rw [e] at h1; exact h1 rfl
      have HQ := Lib.hid (fun (u : Value) (W : World) (hb : Below w.heap.size w W) (hu : Reads W u ((kTags ts).1.map encStr)) => equalS_any u v (kTags ts).1 ts W hu (HV.out.below hb) hlm (by omega) (by omega))
      rw [decide_eq_false hne] at HQ
      generalize kTags ts = K at *
      obtain ⟨K1, K2⟩ := K
      simp only at he e2 HQ hkl
      clear h hbad d2 d3 d4 d5 hne hlm htb hi
      go_enter Tryz.func41, Tryz.ntmps41
      go_wp2_with (first
        | (go_at_call 47; refine (HN.out _ (by assumption)).mono ?_; rintro e w1 ⟨rfl, rfl⟩)
        | (go_at_call 62; refine HK.out.mono ?_; rintro e w1 ⟨u, rfl, hu, b1⟩; have d1 := (b1.cell (p := ⟨x, 1, none⟩) hxl).trans d1; have hur := Reads.of_own (by rw [List.length_map]; exact hu) (by rw [List.length_map]; omega))
        | (go_at_call 63; refine (HQ.out _ _ b1 hur).mono ?_; rintro e w2 ⟨rfl, b2⟩))
      go_ret2
      exact ⟨rfl, b1.trans (b2.mono b1.size)⟩
    · have e2 : ((kTags ts).2 != 0) = true := by simpa using he
      generalize kTags ts = K at *
      obtain ⟨K1, K2⟩ := K
      simp only at he e2 hkl
      clear h hbad d2 d3 d4 d5 htb hi
      go_enter Tryz.func41, Tryz.ntmps41
      go_wp2_with (first
        | (go_at_call 47; refine (HN.out _ (by assumption)).mono ?_; rintro e w1 ⟨rfl, rfl⟩)
        | (go_at_call 62; refine HK.out.mono ?_; rintro e w1 ⟨u, rfl, hu, b1⟩; have d1 := (b1.cell (p := ⟨x, 1, none⟩) hxl).trans d1))
      go_ret2
      exact ⟨rfl, b1⟩
set_option maxHeartbeats 8000000 in
set_option maxRecDepth 100000 in
theorem add_ok (h : Ry w x tb lb sb most seed R n own Rd lm sm l0 d) (hn : n ≤ 90000) (hR0 : 0 ≤ R) (hR : R ≤ 2147483000) (id : Nat) (hid : id ≤ 18446744073709551615) (v : Value) (ts : List (List UInt8)) (hv : Reads w v (ts.map encStr)) (hi : ¬ id ≤ lastE d.all) (htb : tagsB ts = true) :
    Calls Tryz.prog 41 #[.pointer (some ⟨x, 0, none⟩), .int .u64 (id : Int), v] w (AddP_ w x most seed R n (fun g => own g ≠ none) Rd (d.add most id ts)) := by
  obtain ⟨d0, d1, d2, d3, d4, d5⟩ := h.cells
  have HN := Lib.hid (fun W => @rvnone_no W x tb)
  obtain ⟨hkt, hk1⟩ := (tagsB_iff ts).1 htb
  obtain ⟨hval, hsrt, hlen, hnd⟩ := tagsB_is htb
  have HK := keyTags_any v ts w hv (by omega)
  rw [hkt, hk1] at HK
  have HK := Lib.hid HK
  have e1 : decide (id ≤ lastE d.all) = false := decide_eq_false hi
  have HQ := Lib.hid (fun (u : Value) (W : World) (hb : Below w.heap.size w W) (hu : Reads W u (ts.map encStr)) => equalS_any u v ts ts W hu (hv.below hb) (fun h => h) (by omega) (by omega))
  rw [decide_eq_true rfl] at HQ
  have HADD := Lib.hid (adds_is (most := most) h.wf hR0 hnd hval)
  have HSS := Lib.hid hval
  have HY := Lib.hid h
  have hxl := h.bk.lt
  have hms := h.ms
  have hwl := wrong_le d.all d.sl
  have hln := h.ln
  obtain ⟨Ot0, ht0, hot0⟩ := h.tab
  have HST0 : Hid (Dst w w x tb lb sb most seed R own d.all d.sl 0 Ot0 l0 none 0 []) := ⟨by have := h.bk; simpa using this, ht0, fun g hg => .inl (hot0 g hg), World.ownsRow_nil _ _ _ _, fun g hg => by simp [Value.ownBlock] at hg, Only.refl _ _, h.wf, h.ox, h.bk.lt⟩
  have HO0 : Hid (∀ g, Ot0 g → g < w.heap.size) := fun g hg => ht0.lt hg
  obtain ⟨N, hN⟩ : ∃ N, ts.length = N := ⟨_, rfl⟩
  rw [hN] at hlen HK
  have HN_ := Lib.hid hN
  obtain ⟨i0, hi_, hp0⟩ := Option.map_eq_some_iff.1 intInfo
  have hz0 : i0.zero = some (.int .i64 0) := congrArg (·.1) hp0
  have hz1 : i0.size = 1 := congrArg (·.2.1) hp0
  have hz2 : i0.bytes = 8 := congrArg (·.2.2) hp0
  have HDF : Hid (∀ (ns : List Nat) (e : Int), (addsM most l0 ts).2 = (ns, e) → e ≠ 0 → d.add most id ts = (d, [], e)) := fun ns e h1 h2 => by
    rw [(Nq.addsM h.wf hR0 h.nq).1] at h1
    unfold Dx.add
    rw [if_neg (by rw [htb]; simp; omega), if_neg (by rw [h1]; exact h2), h1]
  have HDS : Hid (∀ (l1 : Nms) (ns : List Nat), addsM most l0 ts = (l1, ns, 0) → d.add most id ts = (⟨(addsM most d.nm ts).1, d.all ++ [⟨id, ts, ns, true⟩], d.sl ++ ns.map (fun n => (n, id))⟩, ns, 0) ∧ Nq l1 (addsM most d.nm ts).1) := fun l1 ns h1 => by
    have h2 := Nq.addsM (most := most) (ts := ts) h.wf hR0 h.nq
    rw [h1] at h2
    unfold Dx.add
    rw [if_neg (by rw [htb]; simp; omega), ← h2.1, if_pos rfl]
    exact ⟨rfl, h2.2⟩
  have HIW : Hid (Iw most (R + 16) (d.add most id ts).1) := h.iw.add hR0 id ts
  clear h hv hi htb hkt hk1 hval hsrt hnd ht0 hot0 hN d2 d3 d4 d5 hp0
  go_enter Tryz.func41, Tryz.ntmps41
  go_wp2_with (first
    | (go_at_call 47; refine (HN.out _ (by assumption)).mono ?_; rintro e w1 ⟨rfl, rfl⟩)
    | (go_at_call 62; refine HK.out.mono ?_; rintro e w1 ⟨u, rfl, hu, b1⟩; have d1 := (b1.cell (p := ⟨x, 1, none⟩) hxl).trans d1; have hur : Reads w1 u (ts.map encStr) := Reads.of_own (by rw [List.length_map, HN_.out]; exact hu) (by rw [List.length_map, HN_.out]; omega); obtain ⟨pu, cu, rfl⟩ := owns_form hu)
    | (go_at_call 63; refine (HQ.out _ _ b1 hur).mono ?_; rintro e w2 ⟨rfl, b2⟩))
  have hb2 : Below w.heap.size w w2 := b1.trans (b2.mono b1.size)
  have HST2 := Lib.hid (HST0.out.below hb2)
  have HTG2 : Hid (Tgs w w2 Ot0 (.slice none 0 0) (.slice pu N cu) ts) := ⟨by rw [HN_.out]; exact ownsRow_below hu b2, fun g hg => ⟨fun hO => by have := HO0.out g hO; have := (hu.lt g hg).1; omega, by simp [Value.ownBlock]⟩⟩
  clear b1 b2 hb2 hu hur d1 d0 HST0 HK HQ
  go_loopg [10, 44] N (fun r s10 s44 wr => ∃ (k : Nat) (Ot : Nat → Prop) (li : Nms) (q : Option Addr) (c nf : Nat) (ns : List Nat), r + k = N ∧ s44 = .int .i64 (k : Int) ∧ nf = ns.length ∧ s10 = .slice q nf c ∧ Dst w wr x tb lb sb most seed (R + (k : Int)) own d.all d.sl 0 Ot li q c ns ∧ Tgs w wr Ot (.slice q nf c) (.slice pu N cu) ts ∧ addsM most l0 ts = ((addsM most li (ts.drop k)).1, ns ++ (addsM most li (ts.drop k)).2.1, (addsM most li (ts.drop k)).2.2) ∧ nf ≤ k)
  case atStart => exact ⟨0, Ot0, l0, none, 0, 0, [], by omega, rfl, rfl, rfl, (by have := HST2.out; simpa using this), HTG2.out, (by simp), Nat.le_refl _⟩
  case round =>
    obtain ⟨k, Ot, li, q, c, nf, ns, hk, rfl, hnf, rfl, hst, htg, hrest, hnk⟩ := hrel
    have HK := Lib.hid hk
    have HNF := Lib.hid hnf
    have HST := Lib.hid hst
    have HTG := Lib.hid htg
    have HREST := Lib.hid hrest
    have hkn : k ≤ N := by omega
    have x0 := hst.bk.cell 0
    simp only [List.getElem?_toArray, List.getElem?_cons_zero] at x0
    clear hk hst hnf hrest htg
    by_cases hlt : k < N
    · have hlt2 : k < ts.length := by rw [HN_.out]; exact hlt
      obtain ⟨s, hs⟩ : ∃ s, ts[k] = s := ⟨_, rfl⟩
      have hvs : validB s = true := HSS.out s (by rw [← hs]; exact List.getElem_mem hlt2)
      have hdrop : ts.drop k = s :: ts.drop (k + 1) := by rw [← hs]; exact List.drop_eq_getElem_cons hlt2
      rw [hdrop] at HREST
      have hrow := HTG.out.row
      rw [HN_.out] at hrow
      obtain ⟨gu, cu', hvf, hgu1, hgu2⟩ := hrow.form (by omega)
      injection hvf with h1 h2 h3
      subst h1 h3
      have hc := hrow.cellAt k (by omega)
      rw [List.getElem?_map, List.getElem?_eq_getElem hlt2, hs] at hc
      change wr.cell? ⟨gu, k, none⟩ = some (.string ⟨s.toArray⟩) at hc
      have hsz : (⟨s.toArray⟩ : ByteArray).size ≤ 140737488355328 := by
        unfold validB at hvs
        rw [Bool.and_eq_true, decide_eq_true_eq, decide_eq_true_eq] at hvs
        show s.toArray.size ≤ _
        simp
        omega
      have hdat : (⟨s.toArray⟩ : ByteArray).data.toList = s := by simp
      have HA := add_any HST.out.tab hms.1 hms.2 HST.out.wf (by omega) (⟨s.toArray⟩ : ByteArray) hsz
      rw [hdat] at HA
      have hsp := addM_spec HST.out.wf hvs
      generalize (⟨s.toArray⟩ : ByteArray) = sb8 at hc HA
      have HSTA := Lib.hid (fun (wr' : World) (O' : Nat → Prop) => HST.out.add (wr' := wr') (O' := O') (s := s) (by omega))
      have hrests := adds_rest HREST.out
      clear HREST hrow hs hdrop hvs hsz hdat h2
      rcases hsp with he | ⟨l', m, he, _⟩
      · rw [he] at HA HSTA hrests
        have HR7 := Lib.hid (hrests.2 (by simp))
        have HA := Lib.hid HA
        clear hrests he
        go_wp2_with (go_at_call 64; refine HA.out.mono ?_; rintro e w3 ⟨O', rfl, t', o', n'⟩; have D3 := Lib.hid (HSTA.out _ _ t' o' n'); clear t' o' n')
        have hundo := undo_is HY.out.wf HADD.out
        rw [HR7.out] at hundo
        have HUN := Lib.hid (hundo.trans HY.out.nq)
        have HDA := Lib.hid (HDF.out ns 7 (by rw [HR7.out]) (by decide))
        clear hundo HA HSTA
        go_loopg [61] nf (fun r s61 wr => ∃ (j : Nat) (Ot' : Nat → Prop) (lj : Nms), r + j = nf ∧ s61 = .int .i64 (j : Int) ∧ Dst w wr x tb lb sb most seed (R + (k : Int) + 1) own d.all d.sl 0 Ot' lj q c ns ∧ (relsM li ns).1 = (relsM lj (ns.drop j)).1)
        case atStart => exact ⟨0, O', li, by omega, rfl, D3.out, rfl⟩
        case round =>
          obtain ⟨j, Ot', lj, hj, rfl, hdj, hrj⟩ := hrel
          have HJ := Lib.hid hj
          have HDJ := Lib.hid hdj
          have HRJ := Lib.hid hrj
          have hjn : j ≤ nf := by omega
          have y0 := hdj.bk.cell 0
          simp only [List.getElem?_toArray, List.getElem?_cons_zero] at y0
          clear hj hdj hrj
          by_cases hjl : j < nf
          · have hjl2 : j < ns.length := by rw [← HNF.out]; exact hjl
            have hrow := HDJ.out.row
            rw [← HNF.out] at hrow
            obtain ⟨gq, cq, hvf, _, _⟩ := hrow.form (by omega)
            injection hvf with h1 h2 h3
            subst h1 h3
            have hc := hrow.cellAt j (by omega)
            obtain ⟨m, hm⟩ : ∃ m, ns[j] = m := ⟨_, rfl⟩
            rw [List.getElem?_map, List.getElem?_eq_getElem hjl2, hm] at hc
            change wr.cell? ⟨gq, j, none⟩ = some (.int .i64 (m : Int)) at hc
            have hdrop : ns.drop j = m :: ns.drop (j + 1) := by rw [← hm]; exact List.drop_eq_getElem_cons hjl2
            rw [hdrop] at HRJ
            have HREL := Lib.hid (rel_any HDJ.out.tab hms.1 HDJ.out.wf (by omega) (m : Int))
            clear hrow hm hdrop h2
            go_wp2_with (go_at_call 65; refine HREL.out.mono ?_; rintro e w5 ⟨O5, rfl, t', o', n'⟩; have D5 := Lib.hid (HDJ.out.rel t' o' n'); clear t' o' n')
            go_roundg (nf - (j + 1))
            case measure => have := HJ.out; omega
            case rel => exact ⟨j + 1, O5, _, by omega, by go_num, D5.out, HRJ.out⟩
          · obtain rfl : j = nf := by omega
            go_wp2_with fail
            go_ret2
            have hlj := HRJ.out
            rw [List.drop_of_length_le (by rw [← HNF.out]; exact Nat.le_refl _)] at hlj
            have hq := HUN.out
            change Nq (relsM li ns).1 d.nm at hq
            rw [hlj] at hq
            have D := HDJ.out
            have D16 : Dst w wr x tb lb sb most seed (R + 16) own d.all d.sl 0 Ot' lj q c ns := ⟨D.bk, D.tab, D.ot, D.row, D.off, D.only, D.wf.mono (by omega), D.ox, D.xl⟩
            obtain ⟨hry, hon⟩ := HY.out.back hR0 D16 hq
            rw [HDA.out]
            refine ⟨.slice none 0 0, fun g => ownT own Ot' g ≠ none, Rd, rfl, World.ownsRow_nil _ _ _ _, ⟨tb, lb, sb, _, _, _, _, hry.mono (by omega), fun g => Iff.rfl⟩, ⟨hon, fun g hg => ?_⟩, fun g hg => .inl hg, fun g hg => by simp [Value.ownBlock] at hg⟩
            by_cases hO : Ot' g
            · rcases D.ot g hO with h1 | h1
              · exact .inl (by rw [h1]; simp)
              · exact .inr h1
            · rw [ownT_no hO] at hg
              exact .inl hg
      · rw [he] at HA HSTA hrests
        have HR0' := Lib.hid (hrests.1 rfl)
        have HA := Lib.hid HA
        rw [Int.toNat_natCast] at HR0'
        clear hrests he
        go_wp2_with (first
          | (go_at_call 64; refine HA.out.mono ?_; rintro e w3 ⟨O', rfl, t', o', n'⟩; have D3 := Lib.hid (HSTA.out _ _ t' o' n'); have G3 := Lib.hid (HTG.out.turn o' n'); have hnf2 := HNF.out; subst hnf2; clear t' o' n')
          | (at_builtin; refine wpList_append_own_at _ rfl _ _ 40 rfl w.heap.size 3 i0 (.int .i64 0) 1 8 Tryz.underlying40 hi_ hz0 hz1 hz2 rfl (by decide) _ _ _ rfl (D3.out.row.alloc _) ⟨w3.heap.size, 0, none⟩ 1 1 [.int .i64 (m : Int)] rfl rfl ?c1 ?c2 ?c3 ?c4 ?c5 ?_))
        case c1 => exact cell_one_new _ _ _
        case c2 => exact one_int _ _
        case c3 => unfold maxLen; omega
        case c4 => omega
        case c5 => have := D3.out.only.size; simp; omega
        intro v' w4 hown hg3 _ hblk
        obtain ⟨q', c', rfl⟩ := owns_form hown
        have hq3 : ∀ z, (Value.slice q' (ns.length + 1) c').ownBlock = some z → (Value.slice q ns.length c).ownBlock = some z ∨ w3.heap.size ≤ z := fun z hz => by
          rcases hblk with h1 | h1
          · exact .inl (h1.symm.trans hz)
          · rw [hz] at h1
            injection h1 with h1
            exact .inr (by first | omega | (simp at h1; omega))
        have D4 := Lib.hid (D3.out.app hown hg3 hq3)
        have G4 := Lib.hid (G3.out.app (qv' := .slice q' (ns.length + 1) c') hg3 hq3)
        clear hown hg3 hblk hq3 D3 G3
        go_wp2_with fail
        go_roundg (N - (k + 1))
        case measure => have := HK.out; omega
        case rel => exact ⟨k + 1, O', l', q', c', ns.length + 1, ns ++ [m], by omega, by go_num, by simp, rfl, (by have := D4.out; rw [show R + ((k + 1 : Nat) : Int) = R + (k : Int) + 1 by omega]; exact this), G4.out, HR0'.out, by omega⟩
    · obtain rfl : k = N := by omega
      have hrest := HREST.out
      rw [List.drop_of_length_le (by rw [HN_.out]; exact Nat.le_refl _), show addsM most li [] = (li, [], 0) from rfl, List.append_nil] at hrest
      simp only at hrest
      have HRS := Lib.hid hrest
      have HMS : Hid (∀ m ∈ ns, m < 65536) := fun m hm => by
        have h1 := HADD.out
        rw [HRS.out] at h1
        have h2 := h1.refs m
        rw [if_pos hm] at h2
        have h3 := (HY.out.wf.refs m).1
        have h4 : liveB li m = true := by unfold liveB; rw [decide_eq_true_eq]; simp only at h2; omega
        have h5 := live_lt h4
        have h6 := HST.out.wf.size
        omega
      have hown1 : ∀ g, w.heap.size ≤ g → ¬ Ot g → ownT own Ot g = none := fun g hg hO => by
        rw [ownT_no hO]
        cases ho : own g with
        | none => rfl
        | some i => have := HY.out.olt g i ho; omega
      have hsv1 : Sv wr sb n (ownT own Ot) sm d.sl := by
        have D := HST.out
        have h5 := HY.out.sv.only D.only (fun e => by rw [HY.out.os] at e; rcases e with e | e <;> (injection e with e; omega)) (fun g k hg e => by rw [hg] at e; rcases e with e | e <;> (injection e with e; omega))
        exact ⟨h5.mp, h5.has, fun k hk => ⟨(h5.at_ k hk).1, fun g hg => ownT_old D.ot ((h5.at_ k hk).2 g hg) (HY.out.olt g _ ((HY.out.sv.at_ k hk).2 g hg))⟩⟩
      have holt1 : ∀ g i, ownT own Ot g = some i → g < wr.heap.size := fun g i hg => by
        by_cases hO : Ot g
        · exact HST.out.tab.lt hO
        · rw [ownT_no hO] at hg
          exact Nat.lt_of_lt_of_le (HY.out.olt g i hg) HST.out.only.size
      have hox1 : ownT own Ot x = some 0 := ownT_old HST.out.ot HY.out.ox hxl
      have hos1 : ownT own Ot sb = some 2 := ownT_old HST.out.ot HY.out.os HY.out.sv.mp.lt
      have hol1 : ownT own Ot lb = some 1 := ownT_old HST.out.ot HY.out.ol HY.out.lv.mp.lt
      have HOWN1 := Lib.hid hown1
      obtain ⟨own1, ho1⟩ : ∃ own1, own1 = ownT own Ot := ⟨_, rfl⟩
      rw [← ho1] at hsv1 holt1 hox1 hos1 hol1 HOWN1
      have HO1 := Lib.hid ho1
      have HSV1 := Lib.hid hsv1
      have HOLT1 := Lib.hid holt1
      obtain ⟨W3, hW3⟩ : ∃ W3, wr = W3 := ⟨_, rfl⟩
      have GK := Lib.hid (show gk = gk from rfl)
      rw [hW3] at HST HTG HSV1 HOLT1
      have HW3 := Lib.hid hW3
      clear hrest hown1 hsv1 holt1 ho1 HREST hW3
      go_wp2_with fail
      go_loopg [80] nf (fun r s80 wr => ∃ (j : Nat) (ownJ : Nat → Option Nat) (smJ : List (Nat × Slc)), r + j = nf ∧ s80 = .int .i64 (j : Int) ∧ Sv wr sb (n + j) ownJ smJ (d.sl ++ (ns.take j).map (fun m => (m, id))) ∧ (∀ g i, own1 g = some i → ownJ g = some i) ∧ (∀ g i, ownJ g = some i → own1 g = some i ∨ (W3.heap.size ≤ g ∧ 4 ≤ i)) ∧ (∀ g i, ownJ g = some i → g < wr.heap.size) ∧ Only (fun g => own1 g = some 2 ∨ ∃ i, own1 g = some (i + 4)) W3 wr)
      case atStart => exact ⟨0, own1, sm, by omega, rfl, by rw [HW3.out]; simpa using HSV1.out, fun g i hg => hg, fun g i hg => .inl hg, (by rw [HW3.out]; exact HOLT1.out), by rw [HW3.out]; exact Only.refl _ _⟩
      case round =>
        obtain ⟨j, ownJ, smJ, hj, rfl, hsj, hj1, hj2, hj3, hjo⟩ := hrel
        have HJ := Lib.hid hj
        have HSJ := Lib.hid hsj
        have HJ1 := Lib.hid hj1
        have HJ2 := Lib.hid hj2
        have HJ3 := Lib.hid hj3
        have HJO := Lib.hid hjo
        have hjn : j ≤ nf := by omega
        clear hj hsj hj1 hj2 hj3 hjo
        by_cases hjl : j < nf
        · have hjl2 : j < ns.length := by rw [← HNF.out]; exact hjl
          have hrow := ownsRow_only HST.out.row HJO.out (fun g hg hs => by
            have h1 := HOWN1.out g (HST.out.row.lt g hg).1 (HST.out.off g hg)
            rcases hs with hs | ⟨i, hs⟩ <;> (rw [h1] at hs; cases hs))
          rw [← HNF.out] at hrow
          obtain ⟨gq, cq, hvf, _, _⟩ := hrow.form (by omega)
          injection hvf with h1 h2 h3
          subst h1 h3
          have hc := hrow.cellAt j (by omega)
          obtain ⟨m, hm⟩ : ∃ m, ns[j] = m := ⟨_, rfl⟩
          rw [List.getElem?_map, List.getElem?_eq_getElem hjl2, hm] at hc
          change wr.cell? ⟨gq, j, none⟩ = some (.int .i64 (m : Int)) at hc
          have hm5 : m < 65536 := HMS.out m (by rw [← hm]; exact List.getElem_mem hjl2)
          have HTK : Hid (ns.take (j + 1) = ns.take j ++ [m]) := by
            unfold Hid
            rw [List.take_add_one, List.getElem?_eq_getElem hjl2, hm]
            rfl
          have hxb := HST.out.bk.only HJO.out (fun e => by rcases e with e | ⟨i, e⟩ <;> (rw [hox1] at e; injection e with e; omega))
          have HXB := Lib.hid hxb
          clear hrow hm h2
          have hlen3 : (d.sl ++ (ns.take j).map (fun m => (m, id))).length ≤ n + j := by rw [List.length_append, List.length_map, List.length_take]; omega
          go_wp2_with fail
          have HSJD : Hid (Sv wr.drew sb (n + j) ownJ smJ (d.sl ++ (ns.take j).map (fun m => (m, id)))) := HSJ.out.only ((Only.refl (fun _ => False) wr).drew) (fun h => h) (fun _ _ _ h => h)
          have hbA := (Below.refl wr.drew.heap.size wr.drew).alloc (Nat.le_refl _) (.cells #[.int .u64 (id : Int)] 22)
          have hHA : wr.drew.heap.size = wr.heap.size := rfl
          have HSJA := Lib.hid (HSJD.out.only (Only.of_below hbA (fun _ => False)) (fun h => h) (fun _ _ _ h => h))
          have hrowA := HSJA.out.slc m
          have hlkD := lookN HSJD.out.mp hm5
          have hlkA := lookN HSJA.out.mp hm5
          have hlzn := slc_len hrowA
          have hx3 := HXB.out.cell 3
          have hx3D : wr.drew.cell? ⟨x, 3, none⟩ = some (.map (some sb)) := hx3
          have hxl3 : x < wr.heap.size := HXB.out.lt
          have hx3A : (wr.drew.alloc (.cells #[.int .u64 (id : Int)] 22)).cell? ⟨x, 3, none⟩ = some (.map (some sb)) := (hbA.cell (p := ⟨x, 3, none⟩) hxl3).trans hx3
          have HAP := Lib.hid (nodup_keys HSJ.out.mp)
          have HPUSH := Lib.hid (fun (w5 w6 : World) (v' : Slc) => HSJD.out.push (o := .cells #[.int .u64 (id : Int)] 22) (w5 := w5) (w6 := w6) (k := m) (id := id) (v := v') (HJ1.out sb 2 hos1) HAP.out HJ3.out HSJ.out.mp.lt)
          obtain ⟨L, hL⟩ : ∃ L, ofX (d.sl ++ (ns.take j).map (fun m => (m, id))) m = L := ⟨_, rfl⟩
          have hLn : L.length ≤ n + j := by rw [← hL]; exact Nat.le_trans (ofX_len _ _) hlen3
          rw [hL] at hrowA hlzn HPUSH
          obtain ⟨zo, hzo⟩ : ∃ zo, mget slcZ smJ m = zo := ⟨_, rfl⟩
          rw [hzo] at hrowA hlkD hlkA hlzn HPUSH
          obtain ⟨po, no, co⟩ := zo
          simp only at hlzn
          subst hlzn
          have hownb : ∀ g, (Value.slice po L.length co).ownBlock = some g → own1 g = some (m + 4) ∨ W3.heap.size ≤ g := fun g hg => by
            by_cases hne : ofX (d.sl ++ (ns.take j).map (fun m => (m, id))) m = []
            · rw [mget_none (by rw [HSJ.out.has m, hne]; rfl)] at hzo
              injection hzo with hz1 hz2
              rw [← hz1] at hg
              simp [Value.ownBlock] at hg
            · have h1 := (HSJ.out.at_ m hne).2 g (by rw [hzo]; exact hg)
              rcases HJ2.out g _ h1 with h2 | h2
              · exact .inl h2
              · exact .inr h2.1
          have hW3x : x < W3.heap.size := HOLT1.out x 0 hox1
          have hxnb : ∀ g, (Value.slice po L.length co).ownBlock = some g → g ≠ x := fun g hg e => by
            rcases hownb g hg with h1 | h1
            · rw [e, hox1] at h1; injection h1 with h1; omega
            · omega
          obtain ⟨iu, hiu, hpu⟩ := Option.map_eq_some_iff.1 u64Info
          have hu0 : iu.zero = some (.int .u64 0) := congrArg (·.1) hpu
          have hu1 : iu.size = 1 := congrArg (·.2.1) hpu
          have hu2 : iu.bytes = 8 := congrArg (·.2.2) hpu
          obtain ⟨v5, w5, hrun, o5, g5, _, hv5⟩ := run_append_own_at (P := Tryz.prog) (wr.drew.alloc (.cells #[.int .u64 (id : Int)] 22)) 0 66 66 22 iu (.int .u64 0) 1 8 Tryz.underlying66 hiu hu0 hu1 hu2 rfl (by decide) (.slice po L.length co) L.length (idsV L) hrowA ⟨wr.drew.heap.size, 0, none⟩ 1 1 [.int .u64 (id : Int)] rfl (cell_one_new _ _ _) (one_int _ _) (by unfold maxLen; omega) (by omega) (Nat.zero_le _)
          obtain ⟨p5, c5, rfl⟩ := owns_form o5
          rw [appS_eq] at hrun
          have hrun2 : Sem.run Tryz.prog (appS #[66, 66] 66 #[.slice po L.length co, .slice (some ⟨wr.heap.size, 0, none⟩) 1 1]) (wr.alloc (.cells #[.int .u64 (id : Int)] 22)).drew = .ok (.slice p5 (L.length + 1) c5) w5 := hrun
          have hlkE : Sem.run Tryz.prog (Instr.lookup 61 (.map (some sb)) (.int .i64 (m : Int)) false) (wr.alloc (.cells #[.int .u64 (id : Int)] 22)).drew = .ok (.slice po L.length co) (wr.alloc (.cells #[.int .u64 (id : Int)] 22)).drew := hlkA
          have hlkF : Sem.run Tryz.prog (Instr.lookup 61 (.map (some sb)) (.int .i64 (m : Int)) false) wr.drew = .ok (.slice po L.length co) wr.drew := hlkD
          have hx3E : (wr.alloc (.cells #[.int .u64 (id : Int)] 22)).drew.cell? ⟨x, 3, none⟩ = some (.map (some sb)) := hx3A
          have hmA : MapN (wr.drew.alloc (.cells #[.int .u64 (id : Int)] 22)) sb (n + j) smJ := HSJA.out.mp
          have hsbn : some sb ≠ (Value.slice po L.length co).ownBlock := fun e => by
            rcases hownb sb e.symm with h1 | h1
            · rw [hos1] at h1; injection h1 with h1; omega
            · have := HOLT1.out sb 2 hos1; omega
          have hm5' := hmA.kept g5 hsbn
          have hx35 : w5.cell? ⟨x, 3, none⟩ = some (.map (some sb)) := by
            have hbx : Blk (wr.drew.alloc (.cells #[.int .u64 (id : Int)] 22)) x 63 #[.pointer (some ⟨tb, 0, none⟩), .int .u64 (lastE d.all : Int), .map (some lb), .map (some sb), .int .i64 (d.sl.length : Int), .int .i64 ((wrongX d.all d.sl : Int) + ((0 : Nat) : Int))] := HXB.out.drewN 1 |>.alloc _
            exact (Blk.grown hbx g5 (fun e => hxnb x e.symm rfl)).cell 3
          obtain ⟨w6, hrun60, m6, g6⟩ := World.mapv.update hm5' Tryz.underlying3 Tryz.underlying61 (by unfold maxLen; omega) (a := ((p5, L.length + 1, c5) : Slc)) trivial (s := m) (wf_i64 (by omega))
          have hrun6 : Sem.run Tryz.prog (Instr.mapUpdate 61 (.map (some sb)) (.int .i64 (m : Int)) (.slice p5 (L.length + 1) c5)) w5 = .ok () w6 := hrun60
          have HPU := Lib.hid (HPUSH.out w5 w6 (p5, L.length + 1, c5) o5 g5 (by
            rcases hv5 with h1 | h1
            · exact .inl h1
            · refine .inr (h1.trans ?_)
              simp) m6 g6)
          clear hrun hlkA hlkD hx3A hrowA hmA hm5' hrun60 m6 g6 o5 g5 hv5 hsbn hxnb hownb HPUSH hx3 hzo hbA HAP
          go_region
          go_wp2_with fail
          obtain ⟨own', f1, f2, f3, sv6, o6⟩ := HPU.out
          have hsW := HJO.out.size
          go_roundg (nf - (j + 1))
          case measure => have := HJ.out; omega
          case rel =>
            refine ⟨j + 1, own', _, by omega, by go_num, (by rw [HTK.out, List.map_append, ← List.append_assoc]; exact sv6), fun g i hg => f1 g i (HJ1.out g i hg), fun g i hg => ?_, f3, ?_⟩
            · rcases f2 g i hg with h1 | ⟨h1, h2⟩
              · exact HJ2.out g i h1
              · have h3 : g = wr.heap.size + 1 := h1
                exact .inr ⟨by omega, h2⟩
            · refine (HJO.out.drew : Only _ W3 wr.drew).trans o6 (fun g hg => ?_)
              rcases hg with hg | ⟨i, hg⟩
              · rcases HJ2.out g 2 hg with h1 | h1
                · exact .inl (.inl h1)
                · exact .inr h1.1
              · rcases HJ2.out g _ hg with h1 | h1
                · exact .inl (.inr ⟨i, h1⟩)
                · exact .inr h1.1
        · obtain rfl : j = nf := by omega
          have hxb := HST.out.bk.only HJO.out (fun e => by rcases e with e | ⟨i, e⟩ <;> (rw [hox1] at e; injection e with e; omega))
          have HXB := Lib.hid hxb
          have y0 := hxb.cell 0
          have y1 := hxb.cell 1
          have y2 := hxb.cell 2
          have y4 := hxb.cell 4
          have fx1 := hxb.frozen 1
          have fx4 := hxb.frozen 4
          simp only [List.getElem?_toArray, List.getElem?_cons_zero, List.getElem?_cons_succ] at y0 y1 y2 y4
          have htk : ns.take j = ns := List.take_of_length_le (by rw [← HNF.out]; exact Nat.le_refl _)
          have hsl : ((d.sl ++ ns.map (fun m => (m, id))).length : Int) = (d.sl.length : Int) + (j : Int) := by rw [List.length_append, List.length_map, ← HNF.out]; omega
          have w4e : IntKind.i64.wrap ((d.sl.length : Int) + (j : Int)) = (d.sl.length : Int) + (j : Int) := IntWalk.i64_in _ (by omega)
          have HSL := Lib.hid hsl
          have HTK := Lib.hid htk
          obtain ⟨W7, hW7⟩ : ∃ W7, (wr.setCell ⟨x, 4, none⟩ (.int .i64 ((d.sl.length : Int) + (j : Int)))).setCell ⟨x, 1, none⟩ (.int .u64 (id : Int)) = W7 := ⟨_, rfl⟩
          have o7 : Only (fun g => g = x) wr W7 := by rw [← hW7]; exact ((Only.refl (fun g => g = x) wr).setCell1 (g := x) (.inl rfl) 4 _).setCell1 (g := x) (.inl rfl) 1 _
          have hlv7 : MapL W7 lb n lm := by
            refine mapv_turn HY.out.lv.mp ?_
            have hne : lb ≠ x := fun e => by have := HY.out.ox; rw [← e, HY.out.ol] at this; cases this
            have hlb := HY.out.lv.mp.lt
            rw [o7.block lb (by have := HST.out.only.size; have := HJO.out.size; omega) hne, HJO.out.block lb (by have := HST.out.only.size; omega) (fun e => by rcases e with e | ⟨i, e⟩ <;> (rw [hol1] at e; injection e with e; omega)), HST.out.only.block lb hlb (fun e => by rcases e with e | e <;> (rw [HY.out.ol] at e; injection e with e; omega))]
          have hb7 : Blk W7 x 63 #[.pointer (some ⟨tb, 0, none⟩), .int .u64 (id : Int), .map (some lb), .map (some sb), .int .i64 ((d.sl.length : Int) + (j : Int)), .int .i64 (wrongX d.all d.sl : Int)] := by
            rw [← hW7]
            have := (hxb.set_ 4 (.int .i64 ((d.sl.length : Int) + (j : Int)))).set_ 1 (.int .u64 (id : Int))
            simpa using this
          obtain ⟨v0, st, Wa, Wb, r1, r2, m8, g8⟩ := World.mapv.twoStep hlv7 Tryz.underlying22 Tryz.underlying60 (by unfold maxLen; omega) (a := (((pu, k, cu), (q, j, c)) : Slc × Slc)) trivial (s := id) (wf_u64 hid) ent_zero
          have HB7 := Lib.hid hb7
          have HM8 := Lib.hid m8
          have HG8 := Lib.hid g8
          have HO7 := Lib.hid o7
          have hr1 : Sem.run Tryz.prog (Instr.mapEntry 60 (.map (some lb)) (.int .u64 (id : Int))) ((wr.setCell ⟨x, 4, none⟩ (.int .i64 ((d.sl.length : Int) + (j : Int)))).setCell ⟨x, 1, none⟩ (.int .u64 (id : Int))) = .ok (.tuple #[v0, .int .i64 (st : Int)]) Wa := by rw [hW7]; exact r1
          have hr2 : Sem.run Tryz.prog (Instr.entryStore 60 (.map (some lb)) (.int .i64 (st : Int)) (.agg #[.slice pu k cu, .slice q j c])) Wa = .ok () Wb := r2
          have hnf := HNF.out
          have hxlb : x ≠ lb := fun e => by have := HY.out.ox; rw [e, HY.out.ol] at this; cases this
          have o8 : Only (fun g => g = x ∨ g = lb) wr Wb := (HO7.out.more (S' := fun g => g = x ∨ g = lb) (fun g hg => .inl (.inl hg))).trans (Only.of_grown (S := fun g => g = x ∨ g = lb) HG8.out (.inr rfl)) (fun g hg => .inl hg)
          have hb8 := Blk.grown HB7.out HG8.out (by simp; exact hxlb)
          rw [← HSL.out] at hb8
          obtain ⟨hds1, hds2⟩ := HDS.out li ns HRS.out
          have hiw := HIW.out
          rw [hds1] at hiw
          have D := HST.out
          have D16 : Dst w W3 x tb lb sb most seed (R + 16) own d.all d.sl 0 Ot li q c ns := ⟨D.bk, D.tab, D.ot, D.row, D.off, D.only, D.wf.mono (by omega), D.ox, D.xl⟩
          have G := HTG.out
          have hsv := HSJ.out
          rw [HTK.out] at hsv
          have hsv16 := hsv.mono (n' := n + 16) (by omega)
          have hN := HN_.out
          have hm8 := HM8.out.mono (n' := n + 16) (by omega)
          rw [hnf] at G hm8
          rw [← hN] at G hm8
          obtain ⟨Rd', hry, hon, hn1, hn2, hrow⟩ := HY.out.readd hR0 hid (by have := of_decide_eq_false e1; omega) (N := 0) D16 G HO1.out hds2 hsv16 HJ1.out HJ2.out HJ3.out HJO.out o8 hb8 hm8 hiw (by omega) (by omega)
          have HDS1 := Lib.hid hds1
          have HRY := Lib.hid hry
          have HON := Lib.hid hon
          have HN1 := Lib.hid hn1
          have HN2 := Lib.hid hn2
          have HROWN := Lib.hid hrow
          have hclone : Calls Tryz.prog 66 #[.slice q j c] Wb (NewRow Wb 3 (numsV ns)) := by
            rw [hnf]
            exact cloneI_any _ ns Wb (Reads.of_own (by rw [List.length_map]; exact HROWN.out) (by rw [List.length_map]; omega)) (by omega)
          have HCL := Lib.hid hclone
          clear r1 r2 m8 g8 o7 hlv7 hb7 hW7 hxb htk hsl o8 hb8 hds1 hds2 hiw D D16 G hsv hsv16 hN hm8 hry hon hn1 hn2 hrow hclone hnf
          go_wp2_with (go_at_call 66; refine HCL.out.mono ?_; rintro e w9 ⟨v9, rfl, hv9, b9⟩)
          go_ret2
          rw [List.length_map] at hv9
          have hs9 := HON.out.size
          rw [HDS1.out]
          refine ⟨v9, fun g => ownJ g ≠ none, Rd', rfl, ownsRow_low hv9 hs9, ⟨tb, lb, sb, _, _, _, _, HRY.out.below b9, fun g => Iff.rfl⟩, ⟨HON.out.trans (Only.of_below b9 (fun _ => False)) (fun _ h => h.elim), HN1.out⟩, HN2.out, fun g hg => ?_⟩
          have h1 := (hv9.lt g hg).1
          rintro (h3 | h3)
          · obtain ⟨i, hi⟩ := Option.ne_none_iff_exists'.1 h3
            have := HRY.out.olt g i hi
            omega
          · have := (HRY.out.rd g h3).2
            omega
end
/-- Add, whatever the entry and the tags. -/
theorem rvadd_any {w : World} {x : Nat} {most seed R : Int} {n : Nat} {O Rd : Nat → Prop} {d : Dx} (h : Ri w x most seed R n O Rd d) (hn : n ≤ 90000) (hR0 : 0 ≤ R) (hR : R ≤ 2147483000) (id : Nat) (hid : id ≤ 18446744073709551615) (v : Value) (ts : List (List UInt8)) (hv : Reads w v (ts.map encStr)) (ht : ts.length ≤ 1000) :
    Calls Tryz.prog 41 #[.pointer (some ⟨x, 0, none⟩), .int .u64 (id : Int), v] w (AddP_ w x most seed R n O Rd (d.add most id ts)) := by
  obtain ⟨tb, lb, sb, own, lm, sm, l0, h1, h2⟩ := h
  by_cases hbad : id ≤ lastE d.all ∨ tagsB ts = false
  · have e : d.add most id ts = (d, [], 2) := by unfold Dx.add; rw [if_pos hbad]
    rw [e]
    refine (add_arg h1 id hid v ts hv ht hbad).mono ?_
    rintro e w' ⟨rfl, hb⟩
    have h3 := h1.below hb
    exact ⟨_, O, Rd, rfl, World.ownsRow_nil _ _ _ _, ⟨tb, lb, sb, own, lm, sm, l0, (⟨h3.bk, h3.tab, h3.nq, h3.wf.mono (by omega), h3.lv, h3.sv, h3.ox, h3.ol, h3.os, h3.olt, h3.rd, h3.iw.mono (by omega), h3.ln, h3.ms, h3.lb64⟩ : Ry w' x tb lb sb most seed (R + 16) n own Rd lm sm l0 d).mono (by omega), h2⟩, ⟨Only.of_below hb _, fun _ h => .inl h⟩, fun _ h => .inl h, fun g hg => by simp [Value.ownBlock] at hg⟩
  · rw [not_or] at hbad
    refine (add_ok h1 hn hR0 hR id hid v ts hv hbad.1 (by simpa using hbad.2)).mono ?_
    rintro e w' ⟨v', O', Rd', rfl, hv', hr, hg, hd, ho⟩
    exact ⟨v', O', Rd', rfl, hv', hr, ⟨hg.only.more (fun g hg => .inl ((h2 g).2 hg)), fun g hg' => (hg.new g hg').imp (fun h => (h2 g).2 h) (fun h => h)⟩, hd, ho⟩
end Go.Proofs.YtfpkeinknhijaaaGreat
