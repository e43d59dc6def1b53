/- slices.Insert of one int into a row of the call's own. -/
import Derived.Test.YtfpkeinknhijaaaGreatRepeat
import Derived.Test.YtfpkeinknhijaaaGreatOnly
import Derived.Shelf.Spec.SlicesInsert
import Derived.Shelf.Spec.SlicesInsertGrow
namespace Go.Proofs.YtfpkeinknhijaaaGreat
set_option linter.unusedVariables false
open Go.RowKit Go.Maps Go.Sort

def insRen : Go.Shelf.Ren := ⟨fun | 21 => 83 | 27 => 91 | 28 => 92 | 35 => 108 | 39 => 117 | n => n, fun | 0 => 0 | 3 => 3 | 4 => 4 | 22 => 40 | n => n, fun n => n⟩
theorem insLays : Go.Proofs.Lays2.n21 Tryz.prog insRen := {
  mixed := by kernel_rfl
  f21 := Tryz.func83.trans (congrArg some (by kernel_rfl))
  f27 := Tryz.func91.trans (congrArg some (by kernel_rfl))
  f28 := Tryz.func92.trans (congrArg some (by kernel_rfl))
  f35 := Tryz.func108.trans (congrArg some (by kernel_rfl))
  f39 := Tryz.func117.trans (congrArg some (by kernel_rfl))
  t0 := Tryz.underlying0
  a0 := Tryz.isAgg0
  z0 := Tryz.sizeOf0
  v0 := Tryz.zeroValue0
  t3 := Tryz.underlying3
  a3 := Tryz.isAgg3
  z3 := Tryz.sizeOf3
  v3 := Tryz.zeroValue3
  t4 := Tryz.underlying4
  a4 := Tryz.isAgg4
  z4 := Tryz.sizeOf4
  v4 := Tryz.zeroValue4
  t22 := Tryz.underlying40
  a22 := Tryz.isAgg40
  z22 := Tryz.sizeOf40
  v22 := Tryz.zeroValue40
  i3 := by kernel_rfl }

theorem splice_cons {α : Type} (L : List α) (off : Nat) (v : α) (r : List α) (h : off < L.length) : splice L off (v :: r) = splice (L.set off v) (off + 1) r := by
  unfold splice
  rw [List.take_set, List.drop_set_of_lt (by omega), List.length_cons]
  have e : (L.take (off + 1)).set off v = L.take off ++ [v] := by
    rw [List.take_succ_eq_append_getElem h, List.set_append_right _ _ (by simp; omega)]
    simp [Nat.min_eq_left (Nat.le_of_lt h)]
  rw [e, show off + (r.length + 1) = off + 1 + r.length by omega]
  simp
theorem heap_setCells_row {t : TypeId} (g : Nat) : ∀ (vs : List Value) (off : Nat) (w : World) (L : List Value), w.heap[g]? = some (.cells L.toArray t (0, 0)) → off + vs.length ≤ L.length → (w.setCells g off vs).heap[g]? = some (.cells (splice L off vs).toArray t (0, 0))
  | [], off, w, L, h, _ => by simpa [World.setCells, splice] using h
  | v :: r, off, w, L, h, hl => by
    simp only [List.length_cons] at hl
    rw [splice_cons L off v r (by omega)]
    have h1 : (w.setCell ⟨g, off, none⟩ v).heap[g]? = some (.cells (L.set off v).toArray t (0, 0)) := by
      have := Blk.set_ (g := g) (t := t) (cs := L.toArray) h off v
      unfold Blk at this
      rw [this]
      simp
    exact heap_setCells_row g r (off + 1) _ _ h1 (by rw [List.length_set]; omega)
theorem grown_setCells (g : Nat) : ∀ (vs : List Value) (off : Nat) (w0 w : World), w0.grownBy w (some g) → w0.grownBy (w.setCells g off vs) (some g)
  | [], _, _, _, h => h
  | v :: r, off, w0, w, h => grown_setCells g r (off + 1) w0 _ (only_setCell h (.inl rfl) v)
theorem grown_setCells_new (g : Nat) {row : Option Nat} : ∀ (vs : List Value) (off : Nat) (w0 w : World), w0.grownBy w row → w0.heap.size ≤ g → w0.grownBy (w.setCells g off vs) row
  | [], _, _, _, h, _ => h
  | v :: r, off, w0, w, h, hg => grown_setCells_new g r (off + 1) w0 _ ⟨h.os, h.tape, h.output, by simpa [World.setCell] using h.size, fun k hk hn => (Below.heap_setCell w ⟨g, off, none⟩ v k (by show k ≠ g; omega)).trans (h.block k hk hn)⟩ hg
theorem owns_of_block {w : World} {B g n cap : Nat} {t : TypeId} {L xs : List Value} (hB : B ≤ g) (h : w.heap[g]? = some (.cells L.toArray t (0, 0))) (hL : L.length = cap) (hn : n ≤ cap) (hc : cap ≤ maxLen) (hx : L.take n = xs) : w.ownsRow B t 1 (.slice (some ⟨g, 0, none⟩) n cap) n xs := by
  refine ⟨by rw [← hx, List.length_take, hL, Nat.min_eq_left hn]; omega, .inr ⟨g, cap, L.toArray, rfl, hB, h, hn, hc, by simpa using hL, by simpa using hx⟩⟩
theorem zeros_len (n : Nat) : (Builtin.zeroCells (Value.int .i64 0).cells n).toList = List.replicate n (.int .i64 0) := by
  rw [List.eq_replicate_iff]
  refine ⟨by simp [Builtin.zeroCells, Value.cells], fun b hb => ?_⟩
  simp [Builtin.zeroCells, Value.cells] at hb
  obtain ⟨i, _, rfl⟩ := hb
  simp [Nat.mod_one]
theorem own_newrow {w0 : World} {B cap k : Nat} {t : TypeId} (ys : List Value) (hk : ys.length + k = cap) (hcap : cap ≤ maxLen) (hB : B ≤ w0.heap.size) :
    (w0.alloc (.cells (ys.toArray ++ Builtin.zeroCells (Value.int .i64 0).cells k) t)).ownsRow B t 1 (.slice (some ⟨w0.heap.size, 0, none⟩) ys.length cap) ys.length ys := by
  refine owns_of_block (L := ys ++ List.replicate k (.int .i64 0)) hB ?_ (by simp; omega) (by omega) hcap (by rw [List.take_left' rfl])
  have e : ys.toArray ++ Builtin.zeroCells (Value.int .i64 0).cells k = (ys ++ List.replicate k (Value.int .i64 0)).toArray := by
    apply Array.toList_inj.1
    rw [Array.toList_append, zeros_len]
  rw [e]
  exact heap_alloc_new w0 _
theorem ins_take (T R D : List Value) (x : Value) (i : Nat) {n : Nat} (ht : T.length = i) (hn : i + 1 + D.length = n) : (splice (splice (T ++ R) i [x]) (i + 1) D).take n = T ++ x :: D := by
  have e1 : (splice (T ++ R) i [x]).take (i + 1) = T ++ [x] := by
    unfold splice
    rw [List.take_left' ht, ← List.append_assoc, List.take_left' (by simp [ht])]
  unfold splice at e1 ⊢
  rw [e1, ← List.append_assoc, List.take_left' (by simp [ht]; omega)]
  simp
/-- What Insert leaves. -/
def InsP (w : World) (B : Nat) (v : Value) (xs : List Int) (i : Nat) (x : Int) (e : Ending) (w' : World) : Prop :=
  ∃ v', e = .returned v' ∧ w'.ownsRow B 3 1 v' (xs.length + 1) (i64s (xs.take i ++ x :: xs.drop i)) ∧ w.grownBy w' v.ownBlock ∧ (v'.ownBlock = v.ownBlock ∨ v'.ownBlock = some w.heap.size)
theorem one_ints (xs : List Int) : ∀ v ∈ i64s xs, v.oneCell' = true := by
  intro v hv
  obtain ⟨x, _, rfl⟩ := List.mem_map.1 hv
  rfl
theorem frozen_blk {w : World} {g : Nat} {cs : Array Value} {t : TypeId} (h : w.heap[g]? = some (.cells cs t (0, 0))) (o : Nat) : w.frozen? ⟨g, o, none⟩ = false := Blk.frozen (t := t) (cs := cs) h o
set_option maxHeartbeats 1000000 in
theorem insert_any (B : Nat) (v : Value) (xs : List Int) (i : Nat) (hi : i ≤ xs.length) (x : Int) (vb : Nat) (w : World) (hown : w.ownsRow B 3 1 v xs.length (i64s xs)) (hlen : xs.length ≤ 1000000) (hvb : Blk w vb 3 #[.int .i64 x]) (hne : v.ownBlock ≠ some vb) (hB : B ≤ w.heap.size) :
    Calls Tryz.prog 83 #[v, .int .i64 i, .slice (some ⟨vb, 0, none⟩) 1 1] w (InsP w B v xs i x) := by
  have hvs : ∀ (j : Nat) (u : Value), [Value.int .i64 x][j]? = some u → w.cell? ⟨vb, 0 + j, none⟩ = some u := fun j u hj => by
    rw [Nat.zero_add, Blk.cell hvb j, ← hj]
    simp
  have h1v : ∀ u ∈ [Value.int .i64 x], u.oneCell' = true := fun u hu => by simp at hu; rw [hu]; rfl
  have hxl : (i64s xs).length = xs.length := by simp
  rcases hown.2 with ⟨rfl, h0⟩ | ⟨g, cap, cur, rfl, hBg, hg, hn, hcap, hs, ht⟩
  · obtain rfl : xs = [] := List.eq_nil_of_length_eq_zero h0
    obtain rfl : i = 0 := by simpa using hi
    have hgc := grownCap_ge w 1 0 3
    have hgm := grownCap_le_maxLen w 1 0 3 (by decide)
    refine (Any2.slices_Insert_int_end_grow insLays none 0 0 vb 0 1 1 [] [.int .i64 x] w (by decide) (by decide) (by decide) (by decide) rfl rfl (fun _ => rfl) (fun a h => by cases h) hvs h1v).mono ?_
    rintro e w' ⟨rfl, rfl⟩
    refine ⟨_, rfl, ?_, ?_, .inr rfl⟩
    · exact own_newrow (w0 := w.drew) [.int .i64 x] (by show 1 + _ = _; exact Nat.add_sub_of_le hgc) hgm hB
    · exact only_alloc (only_drewN (only_refl w _) 1) _
  · rw [Nat.mul_one] at ht hs
    have hlenc : cur.toList.length = cap := by simpa using hs
    have hg' : w.heap[g]? = some (.cells cur.toList.toArray 3 (0, 0)) := by simpa using hg
    have hcell : ∀ j, j < cap → (w.cell? ⟨g, 0 + j, none⟩).isSome = true := fun j hj => by
      rw [Nat.zero_add, cell_of_row w g j _ _ (0, 0) hg]
      simp [hs, hj]
    have hcs : ∀ (j : Nat) (u : Value), (i64s xs)[j]? = some u → w.cell? ⟨g, 0 + j, none⟩ = some u := fun j u hj => by
      rw [Nat.zero_add, hown.cellAt j (by have := (List.getElem?_eq_some_iff.1 hj).1; rw [hxl] at this; omega)]
      exact hj
    have hgne : vb ≠ g := fun e => hne (by rw [e]; rfl)
    rcases Nat.lt_or_ge i xs.length with hlt | hge
    · by_cases hroom : xs.length + 1 ≤ cap
      · refine (Any2.slices_Insert_int_shift insLays g 0 xs.length cap i vb 0 1 1 (i64s xs) [.int .i64 x] w hlt (by decide) hroom (by unfold maxLen at hcap; exact hcap) hgne hxl rfl hcs (fun j hj => hcell j (by omega)) (fun j _ => frozen_blk hg _) hvs (one_ints xs) h1v 3 3 1 cap (by unfold World.shape?; rw [hvb]; rfl) (by unfold World.shape?; rw [hg]; simp [hs]) (by omega) (frozen_blk hvb _) (frozen_blk hvb _)).mono ?_
        rintro e w' ⟨rfl, rfl⟩
        have hd : ((i64s xs).drop i).length = xs.length - i := by simp
        have s1 := heap_setCells_row g ((i64s xs).drop i) (0 + (i + 1)) w.drew _ hg' (by rw [hd, hlenc]; omega)
        have s2 := heap_setCells_row g [.int .i64 x] (0 + i) _ _ s1 (by rw [length_splice _ _ _ (by rw [hd, hlenc]; omega), hlenc]; simp; omega)
        refine ⟨_, rfl, ?_, ?_, .inl rfl⟩
        · refine owns_of_block hBg s2 (by rw [length_splice _ _ _ (by rw [length_splice _ _ _ (by rw [hd, hlenc]; omega), hlenc]; simp; omega), length_splice _ _ _ (by rw [hd, hlenc]; omega)]; exact hlenc) (by omega) hcap ?_
          rw [Nat.zero_add, Nat.zero_add]
          have e1 : (splice (splice cur.toList (i + 1) ((i64s xs).drop i)) i [Value.int .i64 x]) = (i64s xs).take i ++ (Value.int .i64 x :: ((i64s xs).drop i)) ++ cur.toList.drop (i + 1 + (xs.length - i)) := by
            unfold splice
            rw [List.take_append_of_le_length (by simp [hs]; omega), List.take_take, Nat.min_eq_left (by omega), List.length_singleton, List.drop_left' (by simp [hs]; omega), hd, ← ht, List.take_take, Nat.min_eq_left (by omega)]
            simp
          rw [e1, List.take_left' (by simp; omega)]
          simp [List.map_append, List.map_take, List.map_drop]
        · exact grown_setCells g _ _ _ _ (grown_setCells g _ _ _ _ (only_drewN (only_refl w _) 1))
      · have hgc := grownCap_ge w (xs.length + 1) cap 3
        have hgm := grownCap_le_maxLen w (xs.length + 1) cap 3 (by unfold maxLen; omega)
        refine (Any2.slices_Insert_int_grow insLays g 0 xs.length cap i vb 0 1 1 (i64s xs) [.int .i64 x] w hlt (by decide) hn (by omega) (by omega) hxl rfl hcs hvs (one_ints xs) h1v).mono ?_
        rintro e w' ⟨rfl, rfl⟩
        have hd : ((i64s xs).drop i).length = xs.length - i := by simp
        have ht2 : ((i64s xs).take i).length = i := by simp; omega
        obtain ⟨C, hC⟩ : ∃ C, grownCap w (xs.length + 1) cap 3 = C := ⟨_, rfl⟩
        rw [hC] at hgc hgm
        simp only [show insRen.t 3 = 3 from rfl, hC]
        have e0 : ((i64s xs).take i).toArray ++ Builtin.zeroCells (Value.int .i64 0).cells (xs.length + 1 - i) ++ Builtin.zeroCells (Value.int .i64 0).cells (C - (xs.length + 1)) = ((i64s xs).take i ++ List.replicate (xs.length + 1 - i) (Value.int .i64 0) ++ List.replicate (C - (xs.length + 1)) (Value.int .i64 0)).toArray := by
          apply Array.toList_inj.1
          rw [Array.toList_append, Array.toList_append, zeros_len, zeros_len]
        have hL0 : ((i64s xs).take i ++ List.replicate (xs.length + 1 - i) (Value.int .i64 0) ++ List.replicate (C - (xs.length + 1)) (Value.int .i64 0)).length = C := by
          rw [List.length_append, List.length_append, ht2]; simp; omega
        have s0 : (w.alloc (.cells (((i64s xs).take i).toArray ++ Builtin.zeroCells (Value.int .i64 0).cells (xs.length + 1 - i) ++ Builtin.zeroCells (Value.int .i64 0).cells (C - (xs.length + 1))) 3)).drew.heap[w.heap.size]? = some (.cells ((i64s xs).take i ++ List.replicate (xs.length + 1 - i) (Value.int .i64 0) ++ List.replicate (C - (xs.length + 1)) (Value.int .i64 0)).toArray 3 (0, 0)) := by
          rw [← e0]; exact heap_alloc_new w _
        have s1 := heap_setCells_row w.heap.size [.int .i64 x] i _ _ s0 (by rw [hL0]; simp; omega)
        have hl1 := length_splice ((i64s xs).take i ++ List.replicate (xs.length + 1 - i) (Value.int .i64 0) ++ List.replicate (C - (xs.length + 1)) (Value.int .i64 0)) i [Value.int .i64 x] (by rw [hL0]; simp; omega)
        rw [hL0] at hl1
        have s2 := heap_setCells_row w.heap.size ((i64s xs).drop i) (i + 1) ((w.alloc (.cells (((i64s xs).take i).toArray ++ Builtin.zeroCells (Value.int .i64 0).cells (xs.length + 1 - i) ++ Builtin.zeroCells (Value.int .i64 0).cells (C - (xs.length + 1))) 3)).drew.setCells w.heap.size i [.int .i64 x]).drew _ s1 (by rw [hl1, hd]; omega)
        refine ⟨_, rfl, ?_, ?_, .inr rfl⟩
        · refine owns_of_block hB s2 (by rw [length_splice _ _ _ (by rw [hl1, hd]; omega)]; exact hl1) hgc hgm ?_
          rw [List.append_assoc, ins_take _ _ _ _ _ ht2 (by rw [hd]; omega)]
          simp [List.map_append, List.map_take, List.map_drop]
        · refine grown_setCells_new _ _ _ _ _ (only_drewN (grown_setCells_new _ _ _ _ _ (only_drewN (only_alloc (only_refl w _) _) 1) (Nat.le_refl _)) 1) (Nat.le_refl _)
    · obtain rfl : i = xs.length := by omega
      by_cases hroom : xs.length + 1 ≤ cap
      · refine (Any2.slices_Insert_int_end_room insLays g 0 xs.length cap vb 0 1 1 [.int .i64 x] w (by decide) hroom (by unfold maxLen at hcap; exact hcap) rfl (fun j hj => by rw [Nat.zero_add]; have := hcell (xs.length + j) (by omega); rwa [Nat.zero_add] at this) (fun j _ => frozen_blk hg _) hvs h1v).mono ?_
        rintro e w' ⟨rfl, rfl⟩
        have s2 := heap_setCells_row g [.int .i64 x] (0 + xs.length) w _ hg' (by rw [hlenc]; simp; omega)
        refine ⟨_, rfl, ?_, ?_, .inl rfl⟩
        · refine owns_of_block hBg s2 (by rw [length_splice _ _ _ (by rw [hlenc]; simp; omega)]; exact hlenc) (by omega) hcap ?_
          rw [Nat.zero_add]
          unfold splice
          rw [ht, ← List.append_assoc, List.take_left' (by simp)]
          simp
        · exact grown_setCells g _ _ _ _ (only_refl w _)
      · have hgc := grownCap_ge w (xs.length + 1) cap 3
        have hgm := grownCap_le_maxLen w (xs.length + 1) cap 3 (by unfold maxLen; omega)
        refine (Any2.slices_Insert_int_end_grow insLays (some ⟨g, 0, none⟩) xs.length cap vb 0 1 1 (i64s xs) [.int .i64 x] w (by decide) hn (by omega) (by omega) hxl rfl (fun h => by cases h) (fun a ha j u hj => by cases ha; rw [addr_add0]; have := hcs j u hj; rwa [Nat.zero_add] at this) hvs h1v).mono ?_
        rintro e w' ⟨rfl, rfl⟩
        refine ⟨_, rfl, ?_, ?_, .inr rfl⟩
        · have := own_newrow (w0 := w.drew) (B := B) (cap := grownCap w (xs.length + 1) cap 3) (k := grownCap w (xs.length + 1) cap 3 - (xs.length + 1)) (t := 3) (i64s xs ++ [.int .i64 x]) (by simp; omega) hgm hB
          simp only [show insRen.t 3 = 3 from rfl]
          simpa using this
        · exact only_alloc (only_drewN (only_refl w _) 1) _
end Go.Proofs.YtfpkeinknhijaaaGreat
