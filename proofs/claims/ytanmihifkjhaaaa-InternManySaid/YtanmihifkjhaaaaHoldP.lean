/- What calls keep: the plain law of InternHolds. -/
import Derived.Test.YtanmihifkjhaaaaActs
namespace Go.Proofs.Ytanmihifkjhaaaa
set_option linter.unusedVariables false
open Go.RowKit Go.Maps Go.Sort

theorem names_find {most R : Int} {l : Nms} (hw : Wf most R l) {x : List UInt8} (h : x ∈ namesL l) : ∃ n, findN l x = some n ∧ validB x = true ∧ liveB l n = true ∧ (nmAt l n).1 = x := by
  unfold namesL at h
  rw [List.mem_mergeSort] at h
  unfold liveTexts at h
  obtain ⟨y, hy, rfl⟩ := List.mem_map.1 h
  obtain ⟨hy, hl⟩ := List.mem_filter.1 hy
  obtain ⟨i, hi⟩ := List.getElem?_of_mem hy
  have e := nmAt_of hi
  have hv : liveB l i = true := by unfold liveB; rw [e]; exact hl
  exact ⟨i, findN_of hw.dist hv (by rw [e]), by have := hw.text i hv; rwa [e] at this, hv, by rw [e]⟩
theorem findN_len {l : Nms} {x : List UInt8} {n : Nat} (h : findN l x = some n) : n < l.length := live_lt (findN_some h).1
theorem stays_add {most R : Int} {l : Nms} (hw : Wf most R l) (hR : 1 ≤ R + 1) (s : List UInt8) {x : List UInt8} {n : Nat} (h : findN l x = some n) : findN (addM most l s).1 x = some n := by
  obtain ⟨h1, h2⟩ := findN_some h
  have hd := (hw.add hR s).dist
  revert hd
  unfold addM
  by_cases hv : validB s = true
  · rw [if_pos hv]
    cases hf : findN l s with
    | some m =>
      simp only
      intro hd
      obtain ⟨g1, g2⟩ := findN_some hf
      have hl := live_lt g1
      have hp : 0 < (nmAt l m).2 := by unfold liveB at g1; simpa using g1
      refine findN_of hd ?_ ?_
      · rw [liveB_set hl]
        split
        · unfold liveX; simp; omega
        · exact h1
      · rw [nmAt_set hl]
        split
        · rename_i e; subst e; rw [← g2, h2]
        · exact h2
    | none =>
      simp only
      split
      · intro hd
        exact h
      · intro hd
        simp only at hd ⊢
        have hne : n ≠ lowest l := fun e => by rw [e, lowest_dead] at h1; cases h1
        refine findN_of hd ?_ ?_
        · rw [liveB_put (lowest_le l), if_neg hne]; exact h1
        · rw [nmAt_put (lowest_le l), if_neg hne]; exact h2
  · rw [if_neg hv]
    intro _
    exact h
theorem rel_back {l : Nms} {k : Int} {m : Nat} (h : liveB (relM l k).1 m = true) : liveB l m = true ∧ (nmAt (relM l k).1 m).1 = (nmAt l m).1 := by
  revert h
  unfold relM
  by_cases hh : hasM l k = true
  · rw [if_pos hh]
    unfold hasM at hh
    rw [Bool.and_eq_true] at hh
    have hl := live_lt hh.2
    split
    · simp only
      intro h
      rw [liveB_set hl] at h
      rw [nmAt_set hl]
      split
      · rename_i e; subst e; exact ⟨hh.2, rfl⟩
      · rename_i e; rw [if_neg e] at h; exact ⟨h, rfl⟩
    · simp only
      intro h
      rw [liveB_set hl] at h
      rw [nmAt_set hl]
      split
      · rename_i e; rw [if_pos e] at h; cases h
      · rename_i e; rw [if_neg e] at h; exact ⟨h, rfl⟩
  · rw [if_neg hh]
    exact fun h => ⟨h, rfl⟩
theorem stays_rel {most R : Int} {l : Nms} (hw : Wf most R l) (k : Int) {x : List UInt8} {n : Nat} (h : findN l x = some n) : findN (relM l k).1 x = some n ∨ findN (relM l k).1 x = none := by
  cases hf : findN (relM l k).1 x with
  | none => exact .inr rfl
  | some m =>
    obtain ⟨g1, g2⟩ := findN_some hf
    obtain ⟨h1, h2⟩ := rel_back g1
    have := findN_of hw.dist h1 (h2.symm.trans g2)
    rw [h] at this
    exact .inl this.symm
theorem rel_len (l : Nms) (k : Int) : (relM l k).1.length = l.length := by
  unfold relM
  split
  · split
    · simp
    · simp
  · rfl
theorem add_len {most : Int} {l : Nms} (s : List UInt8) {G : Int} (hG : (l.length : Int) ≤ G) : ((addM most l s).1.length : Int) ≤ max G (liveN (addM most l s).1 : Nat) := by
  unfold addM
  by_cases hv : validB s = true
  · rw [if_pos hv]
    cases hf : findN l s with
    | some m => simp only [List.length_set]; omega
    | none =>
      simp only
      split
      · simp only; omega
      · simp only
        have hle := lowest_le l
        rw [liveN_put hle (lowest_dead l) _ rfl, putL_len _ _ _ hle]
        by_cases hlt : lowest l < l.length
        · rw [Nat.max_eq_left (by omega)]; omega
        · have : ¬ liveN l < l.length := fun h => hlt (live_of_lt_liveN h)
          omega
  · rw [if_neg hv]
    simp only
    omega
/-- The list after a call. -/
def stepA (most : Int) (l : Nms) (a : Ac) : Nms := if a.1 = 0 then (addM most l a.2.2.data.toList).1 else if a.1 = 1 then (relM l a.2.1).1 else l
section
variable {most R : Int} {l : Nms} (hw : Wf most R l) (hR : 0 ≤ R) (a : Ac)
include hw hR
theorem stepA_wf : Wf most (R + 1) (stepA most l a) := by
  unfold stepA
  split
  · exact hw.add (by omega) _
  · split
    · exact (hw.rel _).mono (by omega)
    · exact hw.mono (by omega)
theorem stepA_stays {x : List UInt8} {n : Nat} (h : findN l x = some n) : findN (stepA most l a) x = some n ∨ findN (stepA most l a) x = none := by
  unfold stepA
  split
  · exact .inl (stays_add hw (by omega) _ h)
  · split
    · exact stays_rel hw _ h
    · exact .inl h
omit hw hR in
theorem stepA_len {G : Int} (hG : (l.length : Int) ≤ G) : ((stepA most l a).length : Int) ≤ max G (liveN (stepA most l a) : Nat) := by
  unfold stepA
  split
  · exact add_len _ hG
  · split
    · rw [rel_len]; omega
    · omega
end
/-- The numbers that Find gives. -/
def numL (l : Nms) (xs : List (List UInt8)) : List Int := xs.map (fun x => idxI (findN l x))

/-- Two tables of the law's own, and what else is to be kept. -/
def K2 (V w : World) (S : Nat → Prop) (b b2 : Nat) (most s1 s2 R : Int) (l l2 : Nms) : Prop :=
  ∃ O O2, Tab w b O most s1 l ∧ Tab w b2 O2 most s2 l2 ∧ (∀ g, O g → ¬ O2 g) ∧ (∀ g, O g ∨ O2 g → V.heap.size ≤ g ∧ ¬ S g) ∧ Wf most R l ∧ Wf most R l2 ∧ (∀ g, S g → g < w.heap.size) ∧ Below V.heap.size V w
section
variable {V w w' : World} {S : Nat → Prop} {b b2 : Nat} {most s1 s2 R : Int} {l l2 : Nms}
theorem K2.keep (k : K2 V w S b b2 most s1 s2 R l l2) (hb : Below w.heap.size w w') {S' : Nat → Prop} (hS : ∀ g, S' g → S g ∨ (w.heap.size ≤ g ∧ g < w'.heap.size)) : K2 V w' S' b b2 most s1 s2 R l l2 := by
  obtain ⟨O, O2, h1, h2, h3, h4, h5, h5', h6, h7⟩ := k
  refine ⟨O, O2, h1.below hb, h2.below hb, h3, fun g hg => ⟨(h4 g hg).1, fun hs => ?_⟩, h5, h5', fun g hg => ?_, h7.trans (hb.mono h7.size)⟩
  · rcases hS g hs with h | h
    · exact (h4 g hg).2 h
    · have : g < w.heap.size := hg.elim (fun h => h1.lt h) (fun h => h2.lt h)
      omega
  · rcases hS g hg with h | h
    · exact Nat.lt_of_lt_of_le (h6 g h) hb.size
    · exact h.2
theorem K2.quiet (k : K2 V w S b b2 most s1 s2 R l l2) (hb : Below w.heap.size w w') : K2 V w' S b b2 most s1 s2 R l l2 := k.keep hb (fun _ h => .inl h)
theorem K2.bel (k : K2 V w S b b2 most s1 s2 R l l2) : Below V.heap.size V w := by
  obtain ⟨O, O2, h1, h2, h3, h4, h5, h5', h6, h7⟩ := k
  exact h7
theorem K2.wf (k : K2 V w S b b2 most s1 s2 R l l2) : Wf most R l := by
  obtain ⟨O, O2, h1, h2, h3, h4, h5, h5', h6, h7⟩ := k
  exact h5
theorem K2.grow (k : K2 V w S b b2 most s1 s2 R l l2) {R' : Int} (h : R ≤ R') : K2 V w S b b2 most s1 s2 R' l l2 := by
  obtain ⟨O, O2, h1, h2, h3, h4, h5, h5', h6, h7⟩ := k
  exact ⟨O, O2, h1, h2, h3, h4, h5.mono h, h5'.mono h, h6, h7⟩
theorem K2.swap (k : K2 V w S b b2 most s1 s2 R l l2) : K2 V w S b2 b most s2 s1 R l2 l := by
  obtain ⟨O, O2, h1, h2, h3, h4, h5, h5', h6, h7⟩ := k
  exact ⟨O2, O, h2, h1, fun g h h' => h3 g h' h, fun g hg => h4 g hg.symm, h5', h5, h6, h7⟩
theorem K2.turn {O O2 : Nat → Prop} (h1 : Tab w b O most s1 l) (h2 : Tab w b2 O2 most s2 l2) (h3 : ∀ g, O g → ¬ O2 g) (h4 : ∀ g, O g ∨ O2 g → V.heap.size ≤ g ∧ ¬ S g) (h5' : Wf most R l2) (h6 : ∀ g, S g → g < w.heap.size) (h7 : Below V.heap.size V w)
    {l' : Nms} {R' : Int} (hR : R ≤ R') (hw : Wf most R' l') {O' : Nat → Prop} (t1 : Tab w' b O' most s1 l') (t2 : Only O w w') (t3 : ∀ g, O' g → O g ∨ w.heap.size ≤ g) : K2 V w' S b b2 most s1 s2 R' l' l2 ∧ Only (fun g => ¬ S g) w w' := by
  have hO2 : ∀ g, O2 g → g < w.heap.size := fun g h => h2.lt h
  refine ⟨⟨O', O2, t1, h2.only t2 (fun g hg ho => h3 g ho hg), fun g h1 h2 => ?_, fun g hg => ?_, hw, h5'.mono hR, fun g hg => Nat.lt_of_lt_of_le (h6 g hg) t2.size, h7.trans (t2.below (fun g hg => (h4 g (.inl hg)).1) h7.size)⟩, t2.more (fun g hg => .inl (h4 g (.inl hg)).2)⟩
  · rcases t3 g h1 with h | h
    · exact h3 g h h2
    · have := hO2 g h2; omega
  · rcases hg with hg | hg
    · rcases t3 g hg with h | h
      · exact h4 g (.inl h)
      · exact ⟨Nat.le_trans h7.size h, fun hs => by have := h6 g hs; omega⟩
    · exact h4 g (.inr hg)
end
end Go.Proofs.Ytanmihifkjhaaaa
