/- An index of entries: New, Drop. -/
import Derived.Test.YthngkimncdpekaaRevE
namespace Go.Proofs.Ythngkimncdpekaa
set_option linter.unusedVariables false
open Go.RowKit Go.Maps Go.Sort

/-- Only blocks of O, and new ones, have turned; the blocks are now those of O'. -/
structure Goes (w : World) (O : Nat → Prop) (w' : World) (O' : Nat → Prop) : Prop where
  only : Only O w w'
  new : ∀ x, O' x → O x ∨ w.heap.size ≤ x
open Classical in
noncomputable def ownT (own : Nat → Option Nat) (Ot : Nat → Prop) : Nat → Option Nat := fun g => if Ot g then some 3 else own g
theorem ownT_yes {own : Nat → Option Nat} {Ot : Nat → Prop} {g : Nat} (h : Ot g) : ownT own Ot g = some 3 := by unfold ownT; rw [if_pos h]
theorem ownT_no {own : Nat → Option Nat} {Ot : Nat → Prop} {g : Nat} (h : ¬ Ot g) : ownT own Ot g = own g := by unfold ownT; rw [if_neg h]
theorem ownT_old {own : Nat → Option Nat} {Ot : Nat → Prop} {B g k : Nat} (hO : ∀ g, Ot g → own g = some 3 ∨ B ≤ g) (hg : own g = some k) (hlt : g < B) : ownT own Ot g = some k := by
  by_cases h : Ot g
  · rw [ownT_yes h]
    rcases hO g h with h1 | h1
    · exact h1.symm.trans hg
    · omega
  · rw [ownT_no h, hg]
theorem ownT_none {own : Nat → Option Nat} {Ot : Nat → Prop} {B g : Nat} (hO : ∀ g, Ot g → own g = some 3 ∨ B ≤ g) (hg : own g = none) (hlt : g < B) : ownT own Ot g = none := by
  by_cases h : Ot g
  · rcases hO g h with h1 | h1
    · rw [hg] at h1; cases h1
    · omega
  · rw [ownT_no h, hg]
def NewP_ (w : World) (most seed : Int) (e : Ending) (w' : World) : Prop :=
  ∃ x O, e = .returned (.tuple #[.pointer (some ⟨x, 0, none⟩), .int .i64 0]) ∧ Ri w' x most seed 0 0 O (fun _ => False) ⟨[], [], []⟩ ∧ (∀ g, O g → w.heap.size ≤ g) ∧ Below w.heap.size w w'
set_option maxHeartbeats 1000000 in
set_option maxRecDepth 100000 in
theorem rvnew_bad (most seed : Int) (h : most < 1 ∨ 65536 < most) (w : World) :
    Calls Try.prog 11 #[.int .i64 most, .int .u64 seed] w fun e w' => e = .returned (.tuple #[.pointer none, .int .i64 2]) ∧ w = w' := by
  have HN := Lib.hid (new_bad most seed h w)
  clear h
  go_enter Try.func11, Try.ntmps11
  go_wp2_with (go_at_call 54; refine HN.out.mono ?_; rintro e w1 ⟨rfl, rfl⟩)
  go_ret2
  exact ⟨rfl, rfl⟩
set_option maxHeartbeats 2000000 in
set_option maxRecDepth 100000 in
theorem rvnew_ok (most seed : Int) (h1 : 1 ≤ most) (h2 : most ≤ 65536) (s0 : 0 ≤ seed) (s1 : seed ≤ 18446744073709551615) (w : World) :
    Calls Try.prog 11 #[.int .i64 most, .int .u64 seed] w (NewP_ w most seed) := by
  have HN := Lib.hid (new_ok most seed h1 h2 s0 s1 w)
  have hmm := @run_makeMap Try.prog
  go_enter Try.func11, Try.ntmps11
  go_wp2_with (go_at_call 54; refine HN.out.mono ?_; rintro e w1 ⟨b, O, rfl, t1, t2, t3⟩)
  go_ret2
  have hsz := t3.size
  have hbl := t1.own.2
  have hm1 : MapL (w1.alloc (.map #[] 0)) w1.heap.size 0 [] := World.mapv.made w1 _ _ _
  have ha1 : Below w1.heap.size w1 (w1.alloc (.map #[] 0)) := (Below.refl _ _).alloc (Nat.le_refl _) _
  have hm2 : MapN ((w1.alloc (.map #[] 0)).alloc (.map #[] 0)) (w1.alloc (.map #[] 0)).heap.size 0 [] := World.mapv.made _ _ _ _
  rw [show (w1.alloc (.map #[] 0)).heap.size = w1.heap.size + 1 by simp] at hm2
  have ha2 : Below w1.heap.size w1 ((w1.alloc (.map #[] 0)).alloc (.map #[] 0)) := ha1.alloc (by simp) _
  have hbk := Blk.new ((w1.alloc (.map #[] 0)).alloc (.map #[] 0)) 74 #[.pointer (some ⟨b, 0, none⟩), .int .u64 0, .map (some w1.heap.size), .map (some (w1.heap.size + 1)), .int .i64 0, .int .i64 0]
  rw [show ((w1.alloc (.map #[] 0)).alloc (.map #[] 0)).heap.size = w1.heap.size + 2 by simp] at hbk
  have ha3 : Below w1.heap.size w1 (((w1.alloc (.map #[] 0)).alloc (.map #[] 0)).alloc (.cells #[.pointer (some ⟨b, 0, none⟩), .int .u64 0, .map (some w1.heap.size), .map (some (w1.heap.size + 1)), .int .i64 0, .int .i64 0] 74)) := ha2.alloc (by simp; omega) _
  obtain ⟨own, hown⟩ : ∃ own : Nat → Option Nat, own = fun g => if g = w1.heap.size + 2 then some 0 else if g = w1.heap.size then some 1 else if g = w1.heap.size + 1 then some 2 else ownT (fun _ => none) O g := ⟨_, rfl⟩
  have o0 : own (w1.heap.size + 2) = some 0 := by rw [hown]; simp
  have o1 : own w1.heap.size = some 1 := by rw [hown]; simp
  have o2 : own (w1.heap.size + 1) = some 2 := by rw [hown]; simp
  have o3 : ∀ g, O g → own g = some 3 := fun g hg => by
    have := t1.lt hg
    rw [hown]
    simp only
    rw [if_neg (by omega), if_neg (by omega), if_neg (by omega), ownT_yes hg]
  have on : ∀ g k, own g = some k → g = w1.heap.size + 2 ∨ g = w1.heap.size ∨ g = w1.heap.size + 1 ∨ O g := fun g k hg => by
    rw [hown] at hg
    simp only at hg
    split at hg
    · exact .inl ‹_›
    · split at hg
      · exact .inr (.inl ‹_›)
      · split at hg
        · exact .inr (.inr (.inl ‹_›))
        · by_cases ho : O g
          · exact .inr (.inr (.inr ho))
          · rw [ownT_no ho] at hg; cases hg
  refine ⟨w1.heap.size + 2, fun g => own g ≠ none, rfl, ⟨b, w1.heap.size, w1.heap.size + 1, own, [], [], [], ⟨?_, ⟨O, t1.below ha3, o3⟩, Nq.refl _, Wf.nil most 0 (by omega) (Int.le_refl _), ⟨?_, fun id => rfl, fun e he => (by cases he)⟩, ⟨?_, fun k => rfl, fun k hk => absurd rfl hk⟩, o0, o1, o2, fun g k hg => ?_, fun g hg => hg.elim, Iw.start most (by omega), ⟨Nat.le_refl _, Nat.le_refl _⟩, ⟨h1, h2⟩, fun e he => (by cases he)⟩, fun g => Iff.rfl⟩, fun g hg => ?_, t3.trans (ha3.mono hsz)⟩
  · exact hbk
  · exact mapv_turn hm1 ((Below.heap_alloc _ _ _ (by simp; omega)).trans (Below.heap_alloc _ _ _ (by simp)))
  · exact mapv_turn hm2 (Below.heap_alloc _ _ _ (by simp))
  · have hs3 : (((w1.alloc (.map #[] 0)).alloc (.map #[] 0)).alloc (.cells #[.pointer (some ⟨b, 0, none⟩), .int .u64 0, .map (some w1.heap.size), .map (some (w1.heap.size + 1)), .int .i64 0, .int .i64 0] 74)).heap.size = w1.heap.size + 3 := by simp
    show g < (((w1.alloc (.map #[] 0)).alloc (.map #[] 0)).alloc (.cells #[.pointer (some ⟨b, 0, none⟩), .int .u64 0, .map (some w1.heap.size), .map (some (w1.heap.size + 1)), .int .i64 0, .int .i64 0] 74)).heap.size
    rw [hs3]
    rcases on g k hg with h | h | h | h
    · omega
    · omega
    · omega
    · have := t1.lt h; omega
  · obtain ⟨k, hk⟩ := Option.ne_none_iff_exists'.1 hg
    rcases on g k hk with h | h | h | h
    · omega
    · omega
    · omega
    · exact t2 g h
section
variable {w w' : World} {x tb lb sb : Nat} {most seed R : Int} {n : Nat} {own : Nat → Option Nat} {Rd : Nat → Prop} {lm : List (Nat × (Slc × Slc))} {sm : List (Nat × Slc)} {l0 : Nms} {d : Dx}
def DropP (w : World) (x : Nat) (most seed R : Int) (n : Nat) (O Rd : Nat → Prop) (r : Dx × List Nat × Int) (e : Ending) (w' : World) : Prop :=
  ∃ v O', e = .returned (.tuple #[v, .int .i64 r.2.2]) ∧ w'.ownsRow w.heap.size 3 1 v r.2.1.length (numsV r.2.1) ∧ Ri w' x most seed R n O' Rd r.1 ∧ Goes w O w' O' ∧ ∀ g, v.ownBlock = some g → ¬ (O' g ∨ Rd g)
set_option maxHeartbeats 1000000 in
set_option maxRecDepth 100000 in
theorem drop_no (h : Ry w x tb lb sb most seed R n own Rd lm sm l0 d) (id : Nat) (hid : id ≤ 18446744073709551615) (hl : liveE d.all id = false) :
    Calls Try.prog 16 #[.pointer (some ⟨x, 0, none⟩), .int .u64 (id : Int)] w fun e w' => e = .returned (.tuple #[.slice none 0 0, .int .i64 9]) ∧ Below w.heap.size w w' := by
  have HF := Lib.hid (rvfind_no h id hid hl)
  clear h hl
  go_enter Try.func16, Try.ntmps16
  go_wp2_with (go_at_call 63; refine HF.out.mono ?_; rintro e w1 ⟨rfl, b1⟩)
  go_ret2
  exact ⟨rfl, b1.alloc b1.size _⟩
/-- Between two rounds of Drop, in memory: k is what is wrong beyond what was. -/
structure Dst (w wr : World) (x tb lb sb : Nat) (most seed R : Int) (own : Nat → Option Nat) (A : List En) (S : List (Nat × Nat)) (k : Nat) (Ot : Nat → Prop) (li : Nms) (q : Option Addr) (c : Nat) (fr : List Nat) : Prop where
  bk : Blk wr x 74 #[.pointer (some ⟨tb, 0, none⟩), .int .u64 (lastE A : Int), .map (some lb), .map (some sb), .int .i64 (S.length : Int), .int .i64 ((wrongX A S : Int) + (k : Int))]
  tab : Tab wr tb Ot most seed li
  ot : ∀ g, Ot g → own g = some 3 ∨ w.heap.size ≤ g
  row : wr.ownsRow w.heap.size 3 1 (.slice q fr.length c) fr.length (numsV fr)
  off : ∀ g, (Value.slice q fr.length c).ownBlock = some g → ¬ Ot g
  only : Only (fun g => own g = some 0 ∨ own g = some 3) w wr
  wf : Wf most R li
  ox : own x = some 0
  xl : x < w.heap.size
section
variable {A : List En} {S : List (Nat × Nat)} {k : Nat} {Ot : Nat → Prop} {li : Nms} {q : Option Addr} {c : Nat} {fr : List Nat} {wr wr' : World}
theorem Dst.below (h : Dst w wr x tb lb sb most seed R own A S k Ot li q c fr) (hb : Below wr.heap.size wr wr') : Dst w wr' x tb lb sb most seed R own A S k Ot li q c fr :=
  ⟨h.bk.below hb h.bk.lt, h.tab.below hb, h.ot, ownsRow_below h.row hb, h.off, h.only.trans (Only.of_below hb (fun _ => False)) (fun _ h => h.elim), h.wf, h.ox, h.xl⟩
theorem Dst.nx (h : Dst w wr x tb lb sb most seed R own A S k Ot li q c fr) : ¬ Ot x := fun hx => by
  rcases h.ot x hx with h1 | h1
  · rw [h.ox] at h1; cases h1
  · have := h.xl; omega
theorem Dst.rel (h : Dst w wr x tb lb sb most seed R own A S k Ot li q c fr) {O' : Nat → Prop} {u : Int} (ht : Tab wr' tb O' most seed (relM li u).1) (ho : Only Ot wr wr') (hn : ∀ g, O' g → Ot g ∨ wr.heap.size ≤ g) : Dst w wr' x tb lb sb most seed R own A S k O' (relM li u).1 q c fr := by
  have hs := h.only.size
  refine ⟨h.bk.only ho h.nx, ht, fun g hg => ?_, ownsRow_only h.row ho h.off, fun g hg hO => ?_, ?_, h.wf.rel u, h.ox, h.xl⟩
  · rcases hn g hg with h1 | h1
    · exact h.ot g h1
    · exact .inr (by omega)
  · rcases hn g hO with h1 | h1
    · exact h.off g hg h1
    · have := (h.row.lt g hg).2; omega
  · exact h.only.trans ho (fun g hg => by
      rcases h.ot g hg with h1 | h1
      · exact .inl (.inr h1)
      · exact .inr h1)
theorem Dst.app (h : Dst w wr x tb lb sb most seed R own A S k Ot li q c fr) {o : Obj} {q' : Option Addr} {c' u : Nat} (hown : wr'.ownsRow w.heap.size 3 1 (.slice q' (fr.length + 1) c') (fr.length + 1) (numsV fr ++ [.int .i64 (u : Int)]))
    (hg : (wr.alloc o).grownBy wr' (Value.slice q fr.length c).ownBlock) (hq : ∀ g, (Value.slice q' (fr.length + 1) c').ownBlock = some g → (Value.slice q fr.length c).ownBlock = some g ∨ wr.heap.size ≤ g) : Dst w wr' x tb lb sb most seed R own A S k Ot li q' c' (fr ++ [u]) := by
  have hlen : (fr ++ [u]).length = fr.length + 1 := by simp
  have ho : Only (fun g => (Value.slice q fr.length c).ownBlock = some g) wr wr' := (((Only.refl (fun g => (Value.slice q fr.length c).ownBlock = some g) wr).alloc o).trans (⟨hg.os, hg.tape, hg.output, hg.size, fun i hi hn => hg.block i hi (fun e => hn e.symm)⟩ : Only (fun g => (Value.slice q fr.length c).ownBlock = some g) _ _) (fun g hg => .inl hg))
  refine ⟨h.bk.only ho (fun e => by have := (h.row.lt x e).1; have := h.xl; omega), h.tab.only ho (fun g hg hs => h.off g hs hg), h.ot, ?_, ?_, h.only.trans ho (fun g hg => .inr (h.row.lt g hg).1), h.wf, h.ox, h.xl⟩
  · rw [hlen]
    unfold numsV
    rw [List.map_append]
    exact hown
  · rw [hlen]
    intro g hg hO
    rcases hq g hg with h1 | h1
    · exact h.off g h1 hO
    · have := h.tab.lt hO; omega
theorem Dst.wrong (h : Dst w wr x tb lb sb most seed R own A S k Ot li q c fr) : Dst w (wr.setCell ⟨x, 5, none⟩ (.int .i64 ((wrongX A S : Int) + ((k + 1 : Nat) : Int)))) x tb lb sb most seed R own A S (k + 1) Ot li q c fr := by
  have ho : Only (fun g => g = x) wr (wr.setCell ⟨x, 5, none⟩ (.int .i64 ((wrongX A S : Int) + ((k + 1 : Nat) : Int)))) := (Only.refl (fun g => g = x) wr).setCell1 (g := x) (.inl rfl) 5 _
  refine ⟨by have := h.bk.set_ 5 (.int .i64 ((wrongX A S : Int) + ((k + 1 : Nat) : Int))); simpa using this, h.tab.only ho (fun g hg e => h.nx (by rw [← e]; exact hg)), h.ot, ownsRow_only h.row ho (fun g hg e => by have := (h.row.lt g hg).1; have := h.xl; omega), h.off, ?_, h.wf, h.ox, h.xl⟩
  exact h.only.trans ho (fun g hg => .inl (.inl (by rw [hg]; exact h.ox)))
theorem rels_rest {l0 li : Nms} {nums fr r : List Nat} {u : Nat} (h : relsM l0 nums = ((relsM li (u :: r)).1, fr ++ (relsM li (u :: r)).2)) :
    relsM l0 nums = ((relsM (relM li (u : Int)).1 r).1, (if (relM li (u : Int)).2.1 = true then fr ++ [u] else fr) ++ (relsM (relM li (u : Int)).1 r).2) := by
  rw [h]
  show ((relsM (relM li (u : Int)).1 r).1, fr ++ (if (relM li (u : Int)).2.1 = true then u :: (relsM (relM li (u : Int)).1 r).2 else (relsM (relM li (u : Int)).1 r).2)) = _
  split
  · rw [List.append_assoc]; rfl
  · rfl
end
/-- An entry is dropped: what lies in memory is the document's. -/
theorem Ry.redrop (h : Ry w x tb lb sb most seed R n own Rd lm sm l0 d) {e : En} (he : e ∈ d.all) (hl : e.live = true) {wr w2 : World} {Ot : Nat → Prop} {li : Nms} {q : Option Addr} {c : Nat} {fr : List Nat}
    (D : Dst w wr x tb lb sb most seed R own d.all d.sl e.nums.length Ot li q c fr) (hm : MapL w2 lb n (mdel lm e.id)) (hg : wr.grownBy w2 (some lb)) (hrest : relsM l0 e.nums = (li, fr)) (hiw : Iw most R ⟨(relsM d.nm e.nums).1, d.all.map (deadE e.id), d.sl⟩) :
    Ry w2 x tb lb sb most seed R n (ownT own Ot) Rd (mdel lm e.id) sm li ⟨(relsM d.nm e.nums).1, d.all.map (deadE e.id), d.sl⟩ ∧ Only (fun g => own g ≠ none) w w2 := by
  have hnl : ¬ Ot lb := fun ho => by
    rcases D.ot lb ho with h1 | h1
    · rw [h.ol] at h1; cases h1
    · have := h.lv.mp.lt; omega
  have hxlb : x ≠ lb := fun e => by have := h.ox; rw [e, h.ol] at this; cases this
  have og : Only (fun g => g = lb) wr w2 := Only.of_grown (S := fun g => g = lb) hg rfl
  have ho : Only (fun g => own g = some 0 ∨ own g = some 1 ∨ own g = some 3) w w2 := (D.only.more (S' := fun g => own g = some 0 ∨ own g = some 1 ∨ own g = some 3) (fun g hg => .inl (by rcases hg with hg | hg; exact .inl hg; exact .inr (.inr hg)))).trans og (fun g hg => .inl (by rw [hg]; exact .inr (.inl h.ol)))
  have hback : ∀ y ∈ d.all.map (deadE e.id), y.live = true → y ∈ d.all ∧ y.id ≠ e.id := by
    intro y hy hyl
    obtain ⟨z, hz, rfl⟩ := List.mem_map.1 hy
    unfold deadE at hyl ⊢
    split at hyl
    · cases hyl
    · rename_i hne
      rw [if_neg hne]
      exact ⟨hz, hne⟩
  have hnq := Nq.relsM (ns := e.nums) h.nq
  rw [hrest] at hnq
  have hrd : ∀ g, Rd g → ¬ (own g = some 0 ∨ own g = some 1 ∨ own g = some 3) := fun g hg hs => by
    have := (h.rd g hg).1
    rcases hs with hs | hs | hs <;> (rw [this] at hs; cases hs)
  refine ⟨⟨?_, ⟨Ot, D.tab.only og (fun g hg e => hnl (by rw [← e]; exact hg)), fun g hg => ownT_yes hg⟩, hnq.2, D.wf, ⟨hm, fun id' => ?_, fun y hy hyl => ?_⟩, ?_, ownT_old D.ot h.ox h.bk.lt, ownT_old D.ot h.ol h.lv.mp.lt, ownT_old D.ot h.os h.sv.mp.lt, fun g k hgk => ?_, fun g hgr => ?_, hiw, ⟨h.ln.1, ?_⟩, h.ms, fun y hy => ?_⟩, ho.more (fun g hg => .inl (by rcases hg with hg | hg | hg <;> (rw [hg]; simp)))⟩
  · have := D.bk.only og hxlb
    show Blk w2 x _ #[_, .int .u64 (lastE (d.all.map (deadE e.id)) : Int), _, _, _, .int .i64 (wrongX (d.all.map (deadE e.id)) d.sl : Int)]
    rw [lastE_dead, h.iw.wrong_drop he hl, Int.natCast_add]
    exact this
  · rw [mhas_del, h.lv.has id', liveE_dead]
  · obtain ⟨h1, h2⟩ := hback y hy hyl
    rw [mget_del_other h2]
    exact ⟨(h.lv.at_ y h1 hyl).1.only ho hrd, (h.lv.at_ y h1 hyl).2.only ho hrd⟩
  · have h5 := h.sv.only ho (fun e => by rw [h.os] at e; rcases e with e | e | e <;> (injection e with e; omega)) (fun g k hg e => by rw [hg] at e; rcases e with e | e | e <;> (injection e with e; omega))
    exact ⟨h5.mp, h5.has, fun k hk => ⟨(h5.at_ k hk).1, fun g hg => ownT_old D.ot ((h5.at_ k hk).2 g hg) (h.olt g _ ((h.sv.at_ k hk).2 g hg))⟩⟩
  · by_cases hO : Ot g
    · exact Nat.lt_of_lt_of_le (D.tab.lt hO) og.size
    · rw [ownT_no hO] at hgk
      exact Nat.lt_of_lt_of_le (h.olt g k hgk) ho.size
  · exact ⟨ownT_none D.ot (h.rd g hgr).1 (h.rd g hgr).2, Nat.lt_of_lt_of_le (h.rd g hgr).2 ho.size⟩
  · show (d.all.map (deadE e.id)).length ≤ n
    rw [List.length_map]
    exact h.ln.2
  · obtain ⟨z, hz, rfl⟩ := List.mem_map.1 hy
    rw [deadE_id]
    exact h.lb64 z hz
set_option maxHeartbeats 4000000 in
set_option maxRecDepth 100000 in
theorem drop_yes (h : Ry w x tb lb sb most seed R n own Rd lm sm l0 d) (hn : n ≤ 100000) (hR : R ≤ 2147483647) (id : Nat) (hid : id ≤ 18446744073709551615) {e : En} (he : getE d.all id = some e) :
    Calls Try.prog 16 #[.pointer (some ⟨x, 0, none⟩), .int .u64 (id : Int)] w (DropP w x most seed R n (fun g => own g ≠ none) Rd (d.drop id)) := by
  have hl : liveE d.all id = true := by unfold liveE; rw [he]; rfl
  have HF := Lib.hid (rvfind_yes h id hid hl)
  obtain ⟨_, hro, _, hnl⟩ := h.ent hl
  have hnums : numsE d.all id = e.nums := by unfold numsE; rw [he]
  rw [hnums] at hro hnl
  have HY := Lib.hid h
  have HE := Lib.hid he
  have hxl := h.bk.lt
  have hwl := wrong_le d.all d.sl
  have hln := h.ln.1
  have hms := h.ms.1
  obtain ⟨Ot0, ht0, hot0⟩ := h.tab
  obtain ⟨nums, hnu⟩ : ∃ nums, e.nums = nums := ⟨_, rfl⟩
  rw [hnu] at hro hnl
  have HNU := Lib.hid hnu
  have HRO := Lib.hid hro
  have HST0 : Hid (Dst w w x tb lb sb most seed R own d.all d.sl 0 Ot0 l0 none 0 []) := ⟨by have := h.bk; simpa using this, ht0, fun g hg => .inl (hot0 g hg), World.ownsRow_nil _ _ _ _, fun g hg => by simp [Value.ownBlock] at hg, Only.refl _ _, h.wf, h.ox, h.bk.lt⟩
  generalize mget entZ lm id = z at *
  obtain ⟨⟨p1, n1, k1⟩, ⟨p2, n2, k2⟩⟩ := z
  obtain ⟨N, hN⟩ : ∃ N, nums.length = N := ⟨_, rfl⟩
  rw [hN] at hnl
  have HN := Lib.hid hN
  have hn2 : n2 = N := by
    obtain ⟨p, cap, hv, _, _⟩ := hro.rd
    injection hv with _ h2 _
    rw [List.length_map, hN] at h2
    exact h2
  subst hn2
  have hDROP : Hid (d.drop id = (⟨(relsM d.nm nums).1, d.all.map (deadE id), d.sl⟩, (relsM d.nm nums).2, 0)) := by
    unfold Hid Dx.drop
    rw [he, ← hnu]
  have HIW : Hid (Iw most R (d.drop id).1) := h.iw.drop id
  rw [hDROP.out] at HIW ⊢
  obtain ⟨i0, hi, hp0⟩ := Option.map_eq_some_iff.1 intInfo
  have hz0 : i0.zero = some (.int .i64 0) := congrArg (·.1) hp0
  have hz1 : i0.size = 1 := congrArg (·.2.1) hp0
  have hz2 : i0.bytes = 8 := congrArg (·.2.2) hp0
  clear h he hl hro ht0 hot0 hnums hnu hN hp0
  go_enter Try.func16, Try.ntmps16
  go_wp2_with (go_at_call 63; refine HF.out.mono ?_; rintro e w1 ⟨rfl, b1⟩)
  have hb1 := b1.alloc b1.size (.cells #[.slice p1 n1 k1, .slice p2 n2 k2] 118)
  have HST1 := Lib.hid (HST0.out.below hb1)
  have HB1 := Lib.hid hb1
  generalize w1.alloc (.cells #[.slice p1 n1 k1, .slice p2 n2 k2] 118) = W1 at *
  clear b1 hb1 HST0
  go_loopg [8, 25] n2 (fun r s8 s25 wr => ∃ (k : Nat) (Ot : Nat → Prop) (li : Nms) (q : Option Addr) (c nf : Nat) (fr : List Nat), r + k = n2 ∧ s25 = .int .i64 (k : Int) ∧ nf = fr.length ∧ s8 = .slice q nf c ∧ Dst w wr x tb lb sb most seed R own d.all d.sl k Ot li q c fr ∧ relsM l0 nums = ((relsM li (nums.drop k)).1, fr ++ (relsM li (nums.drop k)).2) ∧ nf ≤ k)
  case atStart => exact ⟨0, Ot0, l0, none, 0, 0, [], by omega, rfl, rfl, rfl, HST1.out, by simp, Nat.le_refl _⟩
  case round =>
    obtain ⟨k, Ot, li, q, c, nf, fr, hk, rfl, hnf, rfl, hst, hrest, hnk⟩ := hrel
    have HK := Lib.hid hk
    have HNF := Lib.hid hnf
    have HST := Lib.hid hst
    have HREST := Lib.hid hrest
    have hkn : k ≤ n2 := by omega
    have x0 := hst.bk.cell 0
    have x2 := hst.bk.cell 2
    simp only [List.getElem?_toArray, List.getElem?_cons_zero, List.getElem?_cons_succ] at x0 x2
    clear hk hst hnf hrest
    by_cases hlt : k < n2
    · have hlt2 : k < nums.length := by rw [HN.out]; exact hlt
      have hcell : ∃ blk off, p2 = some ⟨blk, off, none⟩ ∧ wr.cell? ⟨blk, off + k, none⟩ = some (.int .i64 (nums[k] : Int)) := by
        have ho : Only (fun g => own g = some 0 ∨ own g = some 3) w wr := HST.out.only
        have hrd := HRO.out.only ho (fun g hg hs => by have := (HY.out.rd g hg).1; rcases hs with hs | hs <;> (rw [this] at hs; cases hs))
        obtain ⟨p, cap, hv, _, h0 | ⟨blk, off, hp, _, _, hc⟩⟩ := hrd.rd
        · rw [List.length_map] at h0; omega
        · injection hv with h2 _ _
          refine ⟨blk, off, h2.trans hp, hc k _ ?_⟩
          rw [List.getElem?_map, List.getElem?_eq_getElem hlt2]
          rfl
      obtain ⟨blk, off, rfl, hc⟩ := hcell
      obtain ⟨u, hu⟩ : ∃ u, nums[k] = u := ⟨_, rfl⟩
      rw [hu] at hc
      have hdrop : nums.drop k = u :: nums.drop (k + 1) := by rw [← hu]; exact List.drop_eq_getElem_cons hlt2
      rw [hdrop] at HREST
      have hrest2 := rels_rest HREST.out
      have HREL := Lib.hid (rel_any HST.out.tab hms HST.out.wf hR (u : Int))
      have w5e : IntKind.i64.wrap ((wrongX d.all d.sl : Int) + (k : Int) + 1) = (wrongX d.all d.sl : Int) + ((k + 1 : Nat) : Int) := by rw [IntWalk.i64_in _ (by omega)]; omega
      clear hu hdrop HREST
      cases hgone : (relM li (u : Int)).2.1 with
      | false =>
        rw [hgone] at hrest2
        have HR2 := Lib.hid hrest2
        unfold RelP at HREL
        rw [hgone] at HREL
        clear hrest2 hgone x2
        go_wp2_with (go_at_call 59; refine HREL.out.mono ?_; rintro e w2 ⟨O', rfl, t', o', n'⟩; have D2 := Lib.hid (HST.out.rel t' o' n'); have y5 := D2.out.bk.cell 5; have fx5 := D2.out.bk.frozen 5; simp only [List.getElem?_toArray, List.getElem?_cons_zero, List.getElem?_cons_succ] at y5; clear t' o' n')
        go_roundg (n2 - (k + 1))
        case measure => have := HK.out; omega
        case rel => exact ⟨k + 1, O', _, q, c, nf, fr, by omega, by go_num, HNF.out, rfl, D2.out.wrong, HR2.out, by omega⟩
      | true =>
        rw [hgone] at hrest2
        have HR2 := Lib.hid hrest2
        unfold RelP at HREL
        rw [hgone] at HREL
        clear hrest2 hgone x2
        go_wp2_with (first
          | (go_at_call 59; refine HREL.out.mono ?_; rintro e w2 ⟨O', rfl, t', o', n'⟩; have D2 := Lib.hid (HST.out.rel t' o' n'); have HNF2 := HNF.out; subst HNF2; clear t' o' n')
          | (at_builtin; refine wpList_append_own_at _ rfl _ _ 46 rfl w.heap.size 3 i0 (.int .i64 0) 1 8 Try.underlying46 hi hz0 hz1 hz2 rfl (by decide) _ _ _ rfl (D2.out.row.alloc _) ⟨w2.heap.size, 0, none⟩ 1 1 [.int .i64 (u : Int)] rfl rfl ?c1 ?c2 ?c3 ?c4 ?c5 ?_))
        case c1 => exact cell_one_new _ _ _
        case c2 => exact one_int _ _
        case c3 => unfold maxLen; omega
        case c4 => omega
        case c5 => have := D2.out.only.size; simp; omega
        intro v' w3 hown hg3 _ hblk
        obtain ⟨q', c', rfl⟩ := owns_form hown
        have D3 := Lib.hid (D2.out.app hown hg3 (fun z hz => by
          rcases hblk with h1 | h1
          · exact .inl (h1.symm.trans hz)
          · rw [hz] at h1
            injection h1 with h1
            exact .inr (by first | omega | (simp at h1; omega))))
        have y5 := D3.out.bk.cell 5
        have y0 := D3.out.bk.cell 0
        have fx5 := D3.out.bk.frozen 5
        simp only [List.getElem?_toArray, List.getElem?_cons_zero, List.getElem?_cons_succ] at y5 y0
        clear hown hg3 hblk D2
        go_wp2_with fail
        go_roundg (n2 - (k + 1))
        case measure => have := HK.out; omega
        case rel => exact ⟨k + 1, O', _, q', c', fr.length + 1, fr ++ [u], by omega, by go_num, by simp, rfl, D3.out.wrong, HR2.out, by omega⟩
    · obtain rfl : k = n2 := by omega
      have hnil : nums.drop k = [] := List.drop_of_length_le (by rw [HN.out]; exact Nat.le_refl _)
      rw [hnil] at HREST
      go_wp2_with (at_delete; refine wpList_delete_v (val := entV) (q := .u64) rfl _ _ 71 118 rfl Try.underlying29 Try.underlying71 rfl (mapv_turn HY.out.lv.mp (HST.out.only.block lb HY.out.lv.mp.lt (fun e => by rcases e with e | e <;> (rw [HY.out.ol] at e; injection e with e; omega)))) id (wf_u64 hid) rfl ?_; intro w2 m2 g2; have M2 := Lib.hid m2; have G2 := Lib.hid g2; clear m2 g2)
      have hnf := HNF.out
      subst hnf
      go_ret2
      obtain ⟨he1, he2, he3⟩ := getE_some HE.out
      have hr := HREST.out
      rw [show relsM li [] = (li, []) from rfl, List.append_nil] at hr
      have D := HST.out
      rw [← HN.out, ← HNU.out] at D
      have M2 := M2.out
      rw [← HNU.out] at hr ⊢
      rw [← he2] at M2
      have hiw := HIW.out
      rw [← HNU.out, ← he2] at hiw
      obtain ⟨hry, hon⟩ := HY.out.redrop he1 he3 D M2 G2.out hr hiw
      have hnq := (Nq.relsM (ns := e.nums) HY.out.nq).1
      rw [hr] at hnq
      rw [← he2]
      refine ⟨_, fun g => ownT own Ot g ≠ none, rfl, ?_, ⟨tb, lb, sb, _, _, sm, _, hry, fun g => Iff.rfl⟩, ⟨hon, fun g hg => ?_⟩, fun g hg => ?_⟩
      · rw [← hnq]
        refine D.row.kept G2.out ?_
        rcases hv : (Value.slice q fr.length c).ownBlock with _ | z
        · exact .inl rfl
        · refine .inr (fun e => ?_)
          have h1 := (D.row.lt z hv).1
          have h2 := HY.out.lv.mp.lt
          injection e with e
          omega
      · by_cases hO : Ot g
        · rcases D.ot g hO with h1 | h1
          · exact .inl (by rw [h1]; simp)
          · exact .inr h1
        · rw [ownT_no hO] at hg
          exact .inl hg
      · have h1 := D.off g hg
        have h2 := (D.row.lt g hg).1
        rintro (h3 | h3)
        · rw [ownT_no h1] at h3
          obtain ⟨i, hi⟩ := Option.ne_none_iff_exists'.1 h3
          have := HY.out.olt g i hi
          omega
        · have := (HY.out.rd g h3).2
          omega
end
/-- Drop, whatever the entry. -/
theorem rvdrop_any {w : World} {x : Nat} {most seed R : Int} {n : Nat} {O Rd : Nat → Prop} {d : Dx} (h : Ri w x most seed R n O Rd d) (hn : n ≤ 100000) (hR : R ≤ 2147483647) (id : Nat) (hid : id ≤ 18446744073709551615) :
    Calls Try.prog 16 #[.pointer (some ⟨x, 0, none⟩), .int .u64 (id : Int)] w (DropP w x most seed R n O Rd (d.drop id)) := by
  obtain ⟨tb, lb, sb, own, lm, sm, l0, h1, h2⟩ := h
  cases he : getE d.all id with
  | none =>
    have e : d.drop id = (d, [], 9) := by unfold Dx.drop; rw [he]
    rw [e]
    refine (drop_no h1 id hid (by unfold liveE; rw [he]; rfl)).mono ?_
    rintro e w' ⟨rfl, hb⟩
    exact ⟨_, O, rfl, World.ownsRow_nil _ _ _ _, ⟨tb, lb, sb, own, lm, sm, l0, h1.below hb, h2⟩, ⟨Only.of_below hb _, fun _ h => .inl h⟩, fun g hg => by simp [Value.ownBlock] at hg⟩
  | some e =>
    refine (drop_yes h1 hn hR id hid he).mono ?_
    rintro e' w' ⟨v, O', rfl, hv, hr, hg, ho⟩
    exact ⟨v, O', rfl, hv, hr, ⟨hg.only.more (fun g hg => .inl ((h2 g).2 hg)), fun g hg' => (hg.new g hg').imp (fun h => (h2 g).2 h) (fun h => h)⟩, ho⟩
end Go.Proofs.Ythngkimncdpekaa
