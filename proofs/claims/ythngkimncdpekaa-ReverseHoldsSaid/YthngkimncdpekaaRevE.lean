/- An index of entries: Cut. -/
import Derived.Test.YthngkimncdpekaaRevD
import Derived.Sort.OwnSortedInts
import Derived.Deep.RegionHeld3
namespace Go.Proofs.Ythngkimncdpekaa
set_option linter.unusedVariables false
open Go.RowKit Go.Maps Go.Sort

abbrev idE (n : Nat) : Value := .int .u64 (n : Int)
theorem owns_put {w : World} {B : Nat} {e : TypeId} {g n cap q : Nat} {vs : List Value} {ys : List Nat} (h : w.ownsRow B e 1 (.slice (some ⟨g, 0, none⟩) n cap) n vs) (hl : ys.length = n) :
    (putRow idE (Sort.ahead w q) g 0 ys.toArray).ownsRow B e 1 (.slice (some ⟨g, 0, none⟩) n cap) n (idsV ys) ∧ Only (fun z => z = g) w (putRow idE (Sort.ahead w q) g 0 ys.toArray) := by
  rcases h.2 with ⟨h', _⟩ | ⟨g', cap', cur, h', hb, hg, hnc, hcm, hcs, htake⟩
  · simp at h'
  · simp only [Value.slice.injEq, Option.some.injEq, Addr.mk.injEq, and_true, true_and] at h'
    obtain ⟨rfl, rfl⟩ := h'
    refine ⟨⟨by simp [hl], .inr ⟨g, cap, putCells idE 0 ys.toArray cur, rfl, hb, ?_, hnc, hcm, by simp [putCells, hcs], ?_⟩⟩, ⟨rfl, rfl, rfl, by simp, fun k _ hk => ?_⟩⟩
    · simp [putRow, mapBlock, Sort.ahead, Array.getElem?_modify, hg, onCells]
    · apply List.ext_getElem?
      intro j
      rw [Nat.mul_one]
      by_cases hj : j < n
      · rw [List.getElem?_take_of_lt hj, Array.getElem?_toList]
        have : j < ys.length := by omega
        simp [putCells, this, show j < cur.size by omega]
      · rw [List.getElem?_take_eq_none (by omega), List.getElem?_eq_none (by simp; omega)]
    · have : g ≠ k := fun e => hk e.symm
      simp [putRow, mapBlock, Sort.ahead, Array.getElem?_modify, this]
theorem holds_owns {w : World} {B : Nat} {e : TypeId} {g n cap : Nat} {xs : List Nat} (h : w.ownsRow B e 1 (.slice (some ⟨g, 0, none⟩) n cap) n (idsV xs)) (hl : xs.length = n) : Holds idE w g 0 xs.toArray := by
  intro j hj
  have hj' : j < xs.length := by simpa using hj
  rw [Nat.zero_add]
  refine ⟨?_, h.frozenAt j⟩
  rw [h.cellAt j (by omega), List.getElem?_map, List.getElem?_eq_getElem hj']
  simp [hj']
theorem delU_any {w : World} {B g cap i : Nat} {L : List Nat} (h : w.ownsRow B 29 1 (.slice (some ⟨g, 0, none⟩) L.length cap) L.length (idsV L)) (hi : i < L.length) :
    Calls Try.prog 74 #[.slice (some ⟨g, 0, none⟩) L.length cap, .int .i64 (i : Int), .int .i64 ((i : Int) + 1)] w fun e w' => e = .returned (.slice (some ⟨g, 0, none⟩) (L.length - 1) cap) ∧ w'.ownsRow B 29 1 (.slice (some ⟨g, 0, none⟩) (L.length - 1) cap) (L.length - 1) (idsV (L.eraseIdx i)) ∧ Only (fun z => z = g) w w' := by
  obtain ⟨i0, hi0, hz0, hz1, hz2⟩ := info_parts u64Info
  have hcap : L.length ≤ cap ∧ cap ≤ maxLen := by
    rcases h.2 with ⟨h', _⟩ | ⟨g', cap', cur, h', _, _, hnc, hcm, _⟩
    · simp at h'
    · simp only [Value.slice.injEq, Option.some.injEq, Addr.mk.injEq, and_true, true_and] at h'
      omega
  have H := Try.slices_Delete idE (fun _ => rfl) 0 u64_zero i0 hi0 hz1 g 0 cap i (i + 1) L.toArray w (holds_owns h rfl) (by simpa using hcap.1) (by have := hcap.2; unfold maxLen at this; omega) (Nat.le_succ i) (by simp; omega)
  have e1 : ((i + 1 : Nat) : Int) = (i : Int) + 1 := by omega
  rw [e1] at H
  simp only [List.size_toArray] at H
  refine H.mono ?_
  rintro e w' ⟨rfl, q, rfl⟩
  have e2 : i + 1 - i = 1 := by omega
  rw [e2]
  have e3 : (L.take i ++ L.drop (i + 1) ++ List.replicate 1 0).length = L.length := by simp; omega
  have h2 := owns_put (q := q) h e3
  refine ⟨rfl, ?_, h2.2⟩
  have h3 := owns_cut h2.1 (i := L.length - 1) (by omega)
  have e4 : (idsV (L.take i ++ L.drop (i + 1) ++ List.replicate 1 0)).take (L.length - 1) = idsV (L.eraseIdx i) := by
    unfold idsV
    rw [← List.map_take, List.eraseIdx_eq_take_drop_succ, List.take_left' (by simp; omega)]
  rw [e4] at h3
  exact h3
section
variable {w w' : World} {x tb lb sb : Nat} {most seed R : Int} {n : Nat} {own : Nat → Option Nat} {Rd : Nat → Prop} {lm : List (Nat × (Slc × Slc))} {sm sm' : List (Nat × Slc)} {l0 : Nms} {d : Dx}
theorem Lv.mono {A : List En} (h : Lv w lb n Rd lm A) {n' : Nat} (hn : n ≤ n') : Lv w lb n' Rd lm A := ⟨h.mp.mono hn, h.has, h.at_⟩
theorem Sv.mono {T : List (Nat × Nat)} (h : Sv w sb n own sm T) {n' : Nat} (hn : n ≤ n') : Sv w sb n' own sm T := ⟨h.mp.mono hn, h.has, h.at_⟩
theorem Ry.mono (h : Ry w x tb lb sb most seed R n own Rd lm sm l0 d) {n' : Nat} (hn : n ≤ n') : Ry w x tb lb sb most seed R n' own Rd lm sm l0 d :=
  ⟨h.bk, h.tab, h.nq, h.wf, h.lv.mono hn, h.sv.mono hn, h.ox, h.ol, h.os, h.olt, h.rd, h.iw, ⟨Nat.le_trans h.ln.1 hn, Nat.le_trans h.ln.2 hn⟩, h.ms, h.lb64⟩
/-- Only the index itself, its map of slots and rows of it may have turned. -/
def slOwn (own : Nat → Option Nat) (g : Nat) : Prop := own g = some 0 ∨ own g = some 2 ∨ ∃ k, own g = some (k + 4)
theorem Ry.recut (h : Ry w x tb lb sb most seed R n own Rd lm sm l0 d) (ho : Only (slOwn own) w w') {S' : List (Nat × Nat)} (hb : Blk w' x 74 #[.pointer (some ⟨tb, 0, none⟩), .int .u64 (lastE d.all : Int), .map (some lb), .map (some sb), .int .i64 (S'.length : Int), .int .i64 (wrongX d.all S' : Int)])
    (hsv : Sv w' sb (n + 1) own sm' S') (hiw : Iw most R ⟨d.nm, d.all, S'⟩) (hln : S'.length ≤ d.sl.length) : Ry w' x tb lb sb most seed R (n + 1) own Rd lm sm' l0 ⟨d.nm, d.all, S'⟩ := by
  have hrd : ∀ g, Rd g → ¬ slOwn own g := fun g hg hs => by
    have := (h.rd g hg).1
    rcases hs with hs | hs | ⟨k, hs⟩ <;> (rw [this] at hs; cases hs)
  refine ⟨hb, h.tab.only ho (fun g hg hs => ?_), h.nq, h.wf, (h.lv.only ho (fun hs => ?_) hrd).mono (Nat.le_succ n), hsv, h.ox, h.ol, h.os, fun g k hg => Nat.lt_of_lt_of_le (h.olt g k hg) ho.size, fun g hg => ⟨(h.rd g hg).1, Nat.lt_of_lt_of_le (h.rd g hg).2 ho.size⟩, hiw, ⟨by have := h.ln.1; show S'.length ≤ n + 1; omega, by have := h.ln.2; show d.all.length ≤ n + 1; omega⟩, h.ms, h.lb64⟩
  · rcases hs with hs | hs | ⟨k, hs⟩ <;> (rw [hg] at hs; injection hs with hs; omega)
  · rcases hs with hs | hs | ⟨k, hs⟩ <;> (rw [h.ol] at hs; injection hs with hs; omega)
def CutP (w : World) (x : Nat) (most seed R : Int) (n : Nat) (O Rd : Nat → Prop) (r : Dx × Bool × Int) (e : Ending) (w' : World) : Prop :=
  e = .returned (.tuple #[.bool r.2.1, .int .i64 r.2.2]) ∧ Ri w' x most seed R (n + 1) O Rd r.1 ∧ Only O w w'
theorem numB_nat {t : Int} (h : numB t = true) : ∃ k : Nat, t = k ∧ k < 65536 := by
  unfold numB at h
  simp at h
  exact ⟨t.toNat, by omega, by omega⟩
set_option maxHeartbeats 1000000 in
set_option maxRecDepth 100000 in
theorem cut_bad (h : Ry w x tb lb sb most seed R n own Rd lm sm l0 d) (t i : Int) (ht : numB t = false) :
    Calls Try.prog 34 #[.pointer (some ⟨x, 0, none⟩), .int .i64 t, .int .i64 i] w fun e w' => e = .returned (.tuple #[.bool false, .int .i64 2]) ∧ w = w' := by
  obtain ⟨d0, d1, d2, d3, d4, d5⟩ := h.cells
  have HC := Lib.hid (rvcheck_any d0 t)
  rw [ht] at HC
  clear h d0 d1 d2 d3 d4 d5 ht
  go_enter Try.func34, Try.ntmps34
  go_wp2_with (go_at_call 73; refine HC.out.mono ?_; rintro e w1 ⟨rfl, rfl⟩)
  go_ret2
  exact ⟨rfl, rfl⟩
theorem slc_len {v : Slc} {k : Nat} {xs : List Value} (h : w.ownsRow 0 29 1 (slcV v) k xs) : v.2.1 = k := by
  rcases h.2 with ⟨h', h0⟩ | ⟨g', cap', cur, h', _⟩
  · injection h' with h1 h2 h3
    rw [h2, h0]
  · injection h' with h1 h2 h3
set_option maxHeartbeats 1000000 in
set_option maxRecDepth 100000 in
theorem cut_out (h : Ry w x tb lb sb most seed R n own Rd lm sm l0 d) (k : Nat) (hk : k < 65536) (i : Int) (hi : i < 0 ∨ ((ofX d.sl k).length : Int) ≤ i) :
    Calls Try.prog 34 #[.pointer (some ⟨x, 0, none⟩), .int .i64 (k : Int), .int .i64 i] w fun e w' => e = .returned (.tuple #[.bool false, .int .i64 9]) ∧ w = w' := by
  obtain ⟨d0, d1, d2, d3, d4, d5⟩ := h.cells
  have HC := Lib.hid (rvcheck_any d0 (k : Int))
  have hlk := lookN h.sv.mp hk
  have hz := slc_len (h.slc k)
  rw [show numB (k : Int) = true by unfold numB; simp; omega] at HC
  generalize (ofX d.sl k).length = K at *
  generalize mget slcZ sm k = z at *
  obtain ⟨p1, n1, k1⟩ := z
  simp only at hz
  subst hz
  clear h d0 d1 d2 d4 d5
  by_cases h0 : i < 0
  · have e0 : decide (i < 0) = true := decide_eq_true h0
    clear hi
    go_enter Try.func34, Try.ntmps34
    go_wp2_with (go_at_call 73; refine HC.out.mono ?_; rintro e w1 ⟨rfl, rfl⟩)
    go_ret2
    exact ⟨rfl, rfl⟩
  · have e0 : decide (i < 0) = false := decide_eq_false h0
    have e1 : (n1 : Int) ≤ i := by omega
    clear hi
    go_enter Try.func34, Try.ntmps34
    go_wp2_with (go_at_call 73; refine HC.out.mono ?_; rintro e w1 ⟨rfl, rfl⟩)
    go_ret2
    exact ⟨rfl, rfl⟩
set_option maxHeartbeats 1000000 in
set_option maxRecDepth 100000 in
theorem cut_live (h : Ry w x tb lb sb most seed R n own Rd lm sm l0 d) (k : Nat) (hk : k < 65536) (i u : Nat) (hu : (ofX d.sl k)[i]? = some u) (hl : liveE d.all u = true) :
    Calls Try.prog 34 #[.pointer (some ⟨x, 0, none⟩), .int .i64 (k : Int), .int .i64 (i : Int)] w fun e w' => e = .returned (.tuple #[.bool false, .int .i64 0]) ∧ Below w.heap.size w w' := by
  obtain ⟨d0, d1, d2, d3, d4, d5⟩ := h.cells
  have HC := Lib.hid (rvcheck_any d0 (k : Int))
  rw [show numB (k : Int) = true by unfold numB; simp; omega] at HC
  have hlk := lookN h.sv.mp hk
  have hrow := h.slc k
  have hu64 := Iw.ids64 h (List.mem_of_getElem? hu)
  have hlt : i < (ofX d.sl k).length := (List.getElem?_eq_some_iff.1 hu).1
  obtain ⟨g, cap, hf, _, _⟩ := hrow.form (by omega)
  have HLV := Lib.hid (rvlive_any h u hu64)
  rw [hl] at HLV
  rw [hf] at hrow
  have hc := hrow.cellAt i (by omega)
  rw [List.getElem?_map, hu] at hc
  change w.cell? ⟨g, i, none⟩ = some (.int .u64 (u : Int)) at hc
  generalize mget slcZ sm k = z at *
  obtain ⟨p1, n1, k1⟩ := z
  injection hf with h1 h2 h3
  simp only at h1 h2 h3
  subst h1 h2 h3
  generalize (ofX d.sl k).length = K at *
  have e0 : decide ((i : Int) < 0) = false := decide_eq_false (by omega)
  have e1 : decide ((K : Int) ≤ (i : Int)) = false := decide_eq_false (by omega)
  change _ = Result.ok (Value.slice (some ⟨g, 0, none⟩) K k1) w at hlk
  clear h hrow hu hl d0 d1 d2 d4 d5
  go_enter Try.func34, Try.ntmps34
  go_wp2_with (first
    | (go_at_call 73; refine HC.out.mono ?_; rintro e w1 ⟨rfl, rfl⟩)
    | (go_at_call 38; refine HLV.out.mono ?_; rintro e w1 ⟨rfl, b1⟩))
  go_ret2
  exact ⟨rfl, b1⟩
theorem ofX_ne_of {S : List (Nat × Nat)} {k i u : Nat} (h : (ofX S k)[i]? = some u) : ofX S k ≠ [] := fun e => by rw [e] at h; simp at h
theorem nodup_keys {m : List (Nat × Slc)} {w : World} {b n : Nat} (h : MapN w b n m) : Apart m := h.apart Try.underlying3
theorem mhas_del {α : Type} {m : List (Nat × α)} {t k : Nat} : mhas (mdel m t) k = (mhas m k && !(k == t)) := by
  rw [Bool.eq_iff_iff, Bool.and_eq_true, mhas_iff, mhas_iff]
  unfold mkeys mdel
  rw [List.mem_map, List.mem_map]
  constructor
  · rintro ⟨p, hp, rfl⟩
    obtain ⟨h1, h2⟩ := List.mem_filter.1 hp
    exact ⟨⟨p, h1, rfl⟩, h2⟩
  · rintro ⟨⟨p, hp, rfl⟩, h2⟩
    exact ⟨p, List.mem_filter.2 ⟨hp, h2⟩, rfl⟩
theorem mget_del_other {α : Type} {z : α} {m : List (Nat × α)} {t k : Nat} (hne : k ≠ t) : mget z (mdel m t) k = mget z m k := by
  unfold mget mdel
  rw [List.find?_filter]
  have e : (fun p : Nat × α => decide ((!(p.1 == t)) = true ∧ (p.1 == k) = true)) = fun p => p.1 == k := by
    funext p
    by_cases h : p.1 = k
    · simp [h, hne]
    · simp [h]
  rw [e]
theorem only_slOwn {S : Nat → Prop} {own : Nat → Option Nat} (h : Only S w w') (hs : ∀ g, S g → slOwn own g) : Only (slOwn own) w w' := h.more (fun g hg => .inl (hs g hg))
/-- The last slot of a number is cut: the number goes out of the map. -/
theorem Sv.cut1 {T : List (Nat × Nat)} (h : Sv w sb n own sm T) (hos : own sb = some 2) {k u : Nat} (hk : ofX T k = [u]) (hm : MapN w' sb n (mdel sm k)) (ho : Only (fun g => own g = some 0 ∨ own g = some 2) w w') : Sv w' sb n own (mdel sm k) (cutL k T 0) := by
  have hof : ∀ j, ofX (cutL k T 0) j = if j = k then [] else ofX T j := fun j => by
    by_cases e : j = k
    · subst e; rw [if_pos rfl, cutL_of_same, hk]; rfl
    · rw [if_neg e, cutL_of_other e]
  refine ⟨hm, fun j => ?_, fun j hj => ?_⟩
  · rw [mhas_del, h.has j, hof j]
    by_cases e : j = k
    · simp [e]
    · simp [e]
  · rw [hof j] at hj ⊢
    by_cases e : j = k
    · rw [if_pos e] at hj; exact absurd rfl hj
    · rw [if_neg e] at hj ⊢
      rw [mget_del_other e]
      obtain ⟨h1, h2⟩ := h.at_ j hj
      exact ⟨ownsRow_only h1 ho (fun g hg hs => by have := h2 g hg; rcases hs with hs | hs <;> (rw [this] at hs; injection hs with hs; omega)), h2⟩
/-- One of several slots of a number is cut: the row holds the others. -/
theorem Sv.cut2 {T : List (Nat × Nat)} (h : Sv w sb n own sm T) {k i : Nat} {v : Slc} (hk : (ofX T k).eraseIdx i ≠ []) (hm : MapN w' sb (n + 1) (mput sm k v)) (hap : Apart sm) (ho : Only (fun g => own g = some 0 ∨ own g = some 2 ∨ own g = some (k + 4)) w w')
    (hv : w'.ownsRow 0 29 1 (slcV v) ((ofX T k).eraseIdx i).length (idsV ((ofX T k).eraseIdx i))) (hvo : ∀ g, (slcV v).ownBlock = some g → own g = some (k + 4)) : Sv w' sb (n + 1) own (mput sm k v) (cutL k T i) := by
  have hof : ∀ j, ofX (cutL k T i) j = if j = k then (ofX T k).eraseIdx i else ofX T j := fun j => by
    by_cases e : j = k
    · subst e; rw [if_pos rfl, cutL_of_same]
    · rw [if_neg e, cutL_of_other e]
  have hne : ofX T k ≠ [] := fun e => hk (by rw [e]; rfl)
  refine ⟨hm, fun j => ?_, fun j hj => ?_⟩
  · rw [mhas_put, h.has j, hof j]
    by_cases e : j = k
    · simp [e, hk]
    · simp [e]
  · rw [hof j] at hj ⊢
    by_cases e : j = k
    · subst e
      rw [if_pos rfl, mget_put_same hap]
      exact ⟨hv, hvo⟩
    · rw [if_neg e] at hj ⊢
      rw [mget_put_other hap e]
      obtain ⟨h1, h2⟩ := h.at_ j hj
      exact ⟨ownsRow_only h1 ho (fun g hg hs => by have := h2 g hg; rcases hs with hs | hs | hs <;> (rw [this] at hs; injection hs with hs; omega)), h2⟩
set_option maxHeartbeats 4000000 in
set_option maxRecDepth 100000 in
theorem cut_dead (h : Ry w x tb lb sb most seed R n own Rd lm sm l0 d) (hn : n ≤ 100000) (k : Nat) (hk : k < 65536) (i u : Nat) (hu : (ofX d.sl k)[i]? = some u) (hl : liveE d.all u = false) :
    Calls Try.prog 34 #[.pointer (some ⟨x, 0, none⟩), .int .i64 (k : Int), .int .i64 (i : Int)] w (CutP w x most seed R n (fun g => own g ≠ none) Rd (⟨d.nm, d.all, cutL k d.sl i⟩, true, 0)) := by
  obtain ⟨d0, d1, d2, d3, d4, d5⟩ := h.cells
  have HC := Lib.hid (rvcheck_any d0 (k : Int))
  rw [show numB (k : Int) = true by unfold numB; simp; omega] at HC
  have hlk := lookN h.sv.mp hk
  have hrow := h.slc k
  have hu64 := Iw.ids64 h (List.mem_of_getElem? hu)
  have hlt : i < (ofX d.sl k).length := (List.getElem?_eq_some_iff.1 hu).1
  obtain ⟨g, cap, hf, _, hgl⟩ := hrow.form (by omega)
  have HLV := Lib.hid (rvlive_any h u hu64)
  rw [hl] at HLV
  have howng : own g = some (k + 4) := (h.sv.at_ k (ofX_ne_of hu)).2 g (by rw [hf]; rfl)
  have hgx : g ≠ x := fun e => by rw [e, h.ox] at howng; cases howng
  have hgs : g ≠ sb := fun e => by rw [e, h.os] at howng; injection howng with howng; omega
  have hxs : x ≠ sb := fun e => by have := h.ox; rw [e, h.os] at this; cases this
  rw [hf] at hrow
  have hc := hrow.cellAt i (by omega)
  rw [List.getElem?_map, hu] at hc
  change w.cell? ⟨g, i, none⟩ = some (.int .u64 (u : Int)) at hc
  rw [hf] at hlk
  have hl1 := cutL_len hu
  have hl2 := wrong_cut (A := d.all) hu (by rw [hl]; decide)
  have HIW : Hid (Iw most R ⟨d.nm, d.all, cutL k d.sl i⟩) := by
    have := h.iw.cut (k : Int) (i : Int)
    unfold Dx.cut at this
    rw [if_pos (by unfold numB; simp; omega), if_pos (by omega), Int.toNat_natCast, Int.toNat_natCast, hu] at this
    simp only [hl, Bool.false_eq_true, if_false] at this
    exact this
  have HU := Lib.hid hu
  obtain ⟨K, hK⟩ : ∃ K, (ofX d.sl k).length = K := ⟨_, rfl⟩
  have hKs := ofX_len d.sl k
  rw [hK] at hlt hlk hrow hKs
  have HK := Lib.hid hK
  have e0 : decide ((i : Int) < 0) = false := decide_eq_false (by omega)
  have e1 : decide ((K : Int) ≤ (i : Int)) = false := decide_eq_false (by omega)
  have HY := Lib.hid h
  have hsz := h.ln.1
  have hwl := wrong_le d.all d.sl
  have w3e : IntKind.i64.wrap ((i : Int) + 1) = (i : Int) + 1 := IntWalk.i64_in _ (by omega)
  obtain ⟨S', hS'⟩ : ∃ S', cutL k d.sl i = S' := ⟨_, rfl⟩
  rw [hS'] at hl1 hl2 HIW ⊢
  have HS' := Lib.hid hS'
  have w1e : IntKind.i64.wrap ((d.sl.length : Int) - 1) = (S'.length : Int) := by rw [IntWalk.i64_in _ (by omega)]; omega
  have w2e : IntKind.i64.wrap ((wrongX d.all d.sl : Int) - 1) = (wrongX d.all S' : Int) := by rw [IntWalk.i64_in _ (by omega)]; omega
  have hxl := h.bk.lt
  have HLN : Hid (S'.length ≤ d.sl.length) := by unfold Hid; omega
  have HW : Hid (∀ w1, Below w.heap.size w w1 → MapN ((w1.setCell ⟨x, 4, none⟩ (.int .i64 (S'.length : Int))).setCell ⟨x, 5, none⟩ (.int .i64 (wrongX d.all S' : Int))) sb n sm ∧
      Blk ((w1.setCell ⟨x, 4, none⟩ (.int .i64 (S'.length : Int))).setCell ⟨x, 5, none⟩ (.int .i64 (wrongX d.all S' : Int))) x 74 #[.pointer (some ⟨tb, 0, none⟩), .int .u64 (lastE d.all : Int), .map (some lb), .map (some sb), .int .i64 (S'.length : Int), .int .i64 (wrongX d.all S' : Int)] ∧
      Only (fun g => own g = some 0) w ((w1.setCell ⟨x, 4, none⟩ (.int .i64 (S'.length : Int))).setCell ⟨x, 5, none⟩ (.int .i64 (wrongX d.all S' : Int)))) := by
    intro w1 hb
    have h1 := HY.out.below hb
    have ho1 : Only (fun g => own g = some 0) w w1 := Only.of_below hb _
    have ho : Only (fun g => own g = some 0) w ((w1.setCell ⟨x, 4, none⟩ (.int .i64 (S'.length : Int))).setCell ⟨x, 5, none⟩ (.int .i64 (wrongX d.all S' : Int))) := (ho1.setCell1 (g := x) (.inl h1.ox) 4 _).setCell1 (g := x) (.inl h1.ox) 5 _
    refine ⟨mapv_turn HY.out.sv.mp (ho.block sb HY.out.sv.mp.lt (fun e => by rw [HY.out.os] at e; cases e)), ?_, ho⟩
    have := (h1.bk.set_ 4 (.int .i64 (S'.length : Int))).set_ 5 (.int .i64 (wrongX d.all S' : Int))
    simpa using this
  have HFIN : Hid (∀ sm' W, Only (slOwn own) w W → Blk W x 74 #[.pointer (some ⟨tb, 0, none⟩), .int .u64 (lastE d.all : Int), .map (some lb), .map (some sb), .int .i64 (S'.length : Int), .int .i64 (wrongX d.all S' : Int)] → Sv W sb (n + 1) own sm' S' → CutP w x most seed R n (fun g => own g ≠ none) Rd (⟨d.nm, d.all, S'⟩, true, 0) (.returned (.tuple #[.bool true, .int .i64 0])) W) := by
    intro sm' W ho hb hsv
    exact ⟨rfl, ⟨tb, lb, sb, own, lm, sm', l0, HY.out.recut ho hb hsv HIW.out HLN.out, fun g => Iff.rfl⟩, ho.more (fun g hg => .inl (by rcases hg with hg | hg | ⟨j, hg⟩ <;> (rw [hg]; simp)))⟩
  have HROW := Lib.hid hrow
  by_cases hK1 : K = 1
  · have e2 : ((K : Int) == 1) = true := by rw [hK1]; rfl
    have HK1 := Lib.hid hK1
    clear h hrow hu hl d0 d1 d2 hK hf hS' hK1 HIW
    go_enter Try.func34, Try.ntmps34
    go_wp2_with (first
      | (go_at_call 73; refine HC.out.mono ?_; rintro e w1 ⟨rfl, rfl⟩)
      | (go_at_call 38; refine HLV.out.mono ?_; rintro e w1 ⟨rfl, b1⟩; have d3 := (b1.cell (p := ⟨x, 3, none⟩) hxl).trans d3; have d4 := (b1.cell (p := ⟨x, 4, none⟩) hxl).trans d4; have d5 := (b1.cell (p := ⟨x, 5, none⟩) hxl).trans d5; have hfx4 := (HY.out.below b1).bk.frozen 4; have hfx5 := (HY.out.below b1).bk.frozen 5; have HB1 := Lib.hid b1; clear b1)
      | (at_delete; refine wpList_delete_v (val := slcV) (q := .i64) rfl _ _ 72 85 rfl Try.underlying3 Try.underlying72 rfl (HW.out _ HB1.out).1 k (wf_i64 (by omega)) rfl ?_; intro w2 m2 g2; have M2 := Lib.hid m2; have G2 := Lib.hid g2; clear m2 g2))
    go_ret2
    obtain ⟨q1, q2, q3⟩ := HW.out _ HB1.out
    have ho2 : Only (fun g => own g = some 0 ∨ own g = some 2) w w2 := (q3.more (fun g hg => .inl (.inl hg))).trans (Only.of_grown (S := fun g => own g = some 0 ∨ own g = some 2) G2.out (.inr HY.out.os)) (fun g hg => .inl hg)
    have hi0 : i = 0 := by have := HK1.out; omega
    have h1 : ofX d.sl k = [u] := by
      have h2 := HU.out
      have h3 := HK.out
      rw [HK1.out] at h3
      obtain ⟨y, hy⟩ := List.length_eq_one_iff.1 h3
      rw [hy, hi0] at h2
      simp at h2
      rw [hy, h2]
    have hsv := (HY.out.sv.cut1 HY.out.os h1 M2.out ho2).mono (Nat.le_succ n)
    rw [hi0] at HS'
    rw [HS'.out] at hsv
    exact HFIN.out _ _ (ho2.more (fun g hg => .inl (by rcases hg with hg | hg; exact .inl hg; exact .inr (.inl hg)))) (Blk.grown q2 G2.out (by simp; omega)) hsv
  · have e2 : ((K : Int) == 1) = false := by rw [beq_eq_false_iff_ne]; omega
    have hK2 : 2 ≤ K := by omega
    clear h hrow hu hl d0 d1 d2 hK hf hS' hK1 HIW
    go_enter Try.func34, Try.ntmps34
    go_wp2_with (first
      | (go_at_call 73; refine HC.out.mono ?_; rintro e w1 ⟨rfl, rfl⟩)
      | (go_at_call 38; refine HLV.out.mono ?_; rintro e w1 ⟨rfl, b1⟩; have d3 := (b1.cell (p := ⟨x, 3, none⟩) hxl).trans d3; have d4 := (b1.cell (p := ⟨x, 4, none⟩) hxl).trans d4; have d5 := (b1.cell (p := ⟨x, 5, none⟩) hxl).trans d5; have hfx4 := (HY.out.below b1).bk.frozen 4; have hfx5 := (HY.out.below b1).bk.frozen 5; have HB1 := Lib.hid b1; clear b1))
    obtain ⟨q1, q2, q3⟩ := HW.out _ HB1.out
    have x3 := q2.cell 3
    have hrow2 := ownsRow_only HROW.out q3 (fun z hz e => by rw [show z = g from by injection hz with hz; exact hz.symm, howng] at e; injection e with e; omega)
    obtain ⟨W, hW⟩ : ∃ W, (w1.setCell ⟨x, 4, none⟩ (.int .i64 (S'.length : Int))).setCell ⟨x, 5, none⟩ (.int .i64 (wrongX d.all S' : Int)) = W := ⟨_, rfl⟩
    rw [hW] at q1 q2 q3 x3 hrow2 ⊢
    have Q1 := Lib.hid q1
    have Q2 := Lib.hid q2
    have Q3 := Lib.hid q3
    have HR2 := Lib.hid hrow2
    clear q1 q2 q3 hrow2 hW d3 d4 d5 hfx4 hfx5 HW
    have HDEL := Lib.hid (fun (W' : World) (hr : W'.ownsRow 0 29 1 (.slice (some ⟨g, 0, none⟩) K cap) K (idsV (ofX d.sl k))) => (by
      have := delU_any (w := W') (L := ofX d.sl k) (i := i) (cap := cap) (B := 0) (g := g) (by rw [HK.out]; exact hr) (by rw [HK.out]; exact hlt)
      rw [HK.out] at this
      exact this : Calls Try.prog 74 #[.slice (some ⟨g, 0, none⟩) K cap, .int .i64 (i : Int), .int .i64 ((i : Int) + 1)] W' fun e w' => e = .returned (.slice (some ⟨g, 0, none⟩) (K - 1) cap) ∧ w'.ownsRow 0 29 1 (.slice (some ⟨g, 0, none⟩) (K - 1) cap) (K - 1) (idsV ((ofX d.sl k).eraseIdx i)) ∧ Only (fun z => z = g) W' w'))
    obtain ⟨K1, hK1⟩ : ∃ K1, K - 1 = K1 := ⟨_, rfl⟩
    rw [hK1] at HDEL
    have HRD : Hid (W.drew.ownsRow 0 29 1 (.slice (some ⟨g, 0, none⟩) K cap) K (idsV (ofX d.sl k))) := HR2.out
    have QD2 : Hid (Blk W.drew x 74 #[.pointer (some ⟨tb, 0, none⟩), .int .u64 (lastE d.all : Int), .map (some lb), .map (some sb), .int .i64 (S'.length : Int), .int .i64 (wrongX d.all S' : Int)]) := Q2.out
    have QD1 : Hid (MapN W.drew sb n sm) := mapv_turn Q1.out rfl
    have xd3 := QD2.out.cell 3
    go_region_held3 (fun w' => w'.cell? ⟨x, 3, none⟩ = some (.map (some sb))) (go_keep) ((go_at_call 74; refine (HDEL.out _ HRD.out).mono ?_; rintro e w4 ⟨rfl, ow4, ho4⟩; have x4 := (Blk.only QD2.out ho4 (fun e => hgx e.symm)).cell 3; have m4 := mapv_turn QD1.out (ho4.block sb QD1.out.lt (fun e => hgs e.symm)); obtain ⟨w7, hrun0, m7, g7⟩ := World.mapv.update m4 Try.underlying3 Try.underlying72 (by unfold maxLen; omega) (a := ((some ⟨g, 0, none⟩, K1, cap) : Slc)) trivial (s := k) (wf_i64 (by omega)); have hrun : Sem.run Try.prog (Instr.mapUpdate 72 (.map (some sb)) (.int .i64 (k : Int)) (.slice (some ⟨g, 0, none⟩) K1 cap)) w4 = .ok () w7 := hrun0; have x7 := (Blk.grown (Blk.only QD2.out ho4 (fun e => hgx e.symm)) g7 (by simp; exact hxs)).cell 3; have M7 := Lib.hid m7; have G7 := Lib.hid g7; have OW4 := Lib.hid ow4; have HO4 := Lib.hid ho4; clear ow4 ho4 m4 m7 g7 hrun0))
    go_wp2_with fail
    go_ret2
    have hq2 : Blk w7 x 74 #[.pointer (some ⟨tb, 0, none⟩), .int .u64 (lastE d.all : Int), .map (some lb), .map (some sb), .int .i64 (S'.length : Int), .int .i64 (wrongX d.all S' : Int)] := Blk.grown (Blk.only QD2.out HO4.out (fun e => hgx e.symm)) G7.out (by simp; exact hxs)
    have ho1 : Only (fun z => own z = some 0 ∨ own z = some 2 ∨ own z = some (k + 4)) w W.drew := ((Q3.out.more (fun z hz => .inl (.inl hz))) : Only _ w W).drew
    have ho2 : Only (fun z => own z = some 0 ∨ own z = some 2 ∨ own z = some (k + 4)) w w7 := (ho1.trans HO4.out (fun z hz => .inl (by rw [hz]; exact .inr (.inr howng)))).trans (Only.of_grown (S := fun z => own z = some 0 ∨ own z = some 2 ∨ own z = some (k + 4)) G7.out (.inr (.inl HY.out.os))) (fun z hz => .inl hz)
    have hel : ((ofX d.sl k).eraseIdx i).length = K1 := by rw [List.length_eraseIdx_of_lt (by rw [HK.out]; exact hlt), HK.out, hK1]
    have hrow7 : w7.ownsRow 0 29 1 (slcV (some ⟨g, 0, none⟩, K1, cap)) ((ofX d.sl k).eraseIdx i).length (idsV ((ofX d.sl k).eraseIdx i)) := by
      rw [hel]
      exact OW4.out.kept G7.out (.inr (fun e => hgs (by injection e)))
    have hsv := HY.out.sv.cut2 (v := (some ⟨g, 0, none⟩, K1, cap)) (k := k) (i := i) (fun e => by rw [e] at hel; simp at hel; omega) M7.out (nodup_keys HY.out.sv.mp) ho2 hrow7 (fun z hz => by rw [show z = g from by injection hz with hz; exact hz.symm]; exact howng)
    rw [HS'.out] at hsv
    exact HFIN.out _ _ (ho2.more (fun z hz => .inl (by rcases hz with hz | hz | hz; exact .inl hz; exact .inr (.inl hz); exact .inr (.inr ⟨k, hz⟩)))) hq2 hsv
end
/-- Cut, whatever the number and the index. -/
theorem rvcut_any {w : World} {x : Nat} {most seed R : Int} {n : Nat} {O Rd : Nat → Prop} {d : Dx} (h : Ri w x most seed R n O Rd d) (hn : n ≤ 100000) (t i : Int) :
    Calls Try.prog 34 #[.pointer (some ⟨x, 0, none⟩), .int .i64 t, .int .i64 i] w (CutP w x most seed R n O Rd (d.cut t i)) := by
  obtain ⟨tb, lb, sb, own, lm, sm, l0, h1, h2⟩ := h
  have hstay : ∀ (r : Bool) (e : Int) (w' : World), Below w.heap.size w w' → CutP w x most seed R n O Rd (d, r, e) (.returned (.tuple #[.bool r, .int .i64 e])) w' := fun r e w' hb => ⟨rfl, ⟨tb, lb, sb, own, lm, sm, l0, (h1.below hb).mono (Nat.le_succ n), h2⟩, Only.of_below hb _⟩
  cases ht : numB t with
  | false =>
    have e : d.cut t i = (d, false, 2) := by unfold Dx.cut; rw [if_neg (by rw [ht]; decide)]
    rw [e]
    refine (cut_bad h1 t i ht).mono ?_
    rintro e w' ⟨rfl, rfl⟩
    exact hstay _ _ _ (Below.refl _ _)
  | true =>
    obtain ⟨k, rfl, hk⟩ := numB_nat ht
    by_cases hi : 0 ≤ i
    · obtain ⟨j, rfl⟩ : ∃ j : Nat, i = j := ⟨i.toNat, by omega⟩
      cases hu : (ofX d.sl k)[j]? with
      | none =>
        have e : d.cut (k : Int) (j : Int) = (d, false, 9) := by
          unfold Dx.cut
          rw [if_pos ht, if_pos hi, Int.toNat_natCast, Int.toNat_natCast, hu]
        rw [e]
        refine (cut_out h1 k hk (j : Int) (.inr (by rw [List.getElem?_eq_none_iff] at hu; omega))).mono ?_
        rintro e w' ⟨rfl, rfl⟩
        exact hstay _ _ _ (Below.refl _ _)
      | some u =>
        cases hl : liveE d.all u with
        | true =>
          have e : d.cut (k : Int) (j : Int) = (d, false, 0) := by
            unfold Dx.cut
            rw [if_pos ht, if_pos hi, Int.toNat_natCast, Int.toNat_natCast, hu]
            simp only [hl, if_true]
          rw [e]
          refine (cut_live h1 k hk j u hu hl).mono ?_
          rintro e w' ⟨rfl, hb⟩
          exact hstay _ _ _ hb
        | false =>
          have e : d.cut (k : Int) (j : Int) = (⟨d.nm, d.all, cutL k d.sl j⟩, true, 0) := by
            unfold Dx.cut
            rw [if_pos ht, if_pos hi, Int.toNat_natCast, Int.toNat_natCast, hu]
            simp only [hl, Bool.false_eq_true, if_false]
          rw [e]
          refine (cut_dead h1 hn k hk j u hu hl).mono ?_
          rintro e w' ⟨rfl, hr, ho⟩
          obtain ⟨tb', lb', sb', own', lm', sm', l0', h3, h4⟩ := hr
          exact ⟨rfl, ⟨tb', lb', sb', own', lm', sm', l0', h3, fun g => (h2 g).trans (h4 g)⟩, ho.more (fun g hg => .inl ((h2 g).2 hg))⟩
    · have e : d.cut (k : Int) i = (d, false, 9) := by
        unfold Dx.cut
        rw [if_pos ht, if_neg hi]
      rw [e]
      refine (cut_out h1 k hk i (.inl (by omega))).mono ?_
      rintro e w' ⟨rfl, rfl⟩
      exact hstay _ _ _ (Below.refl _ _)
end Go.Proofs.Ythngkimncdpekaa
