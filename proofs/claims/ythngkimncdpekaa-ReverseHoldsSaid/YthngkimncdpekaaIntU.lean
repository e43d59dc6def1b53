/- What stores make of a table in memory. -/
import Derived.Test.YthngkimncdpekaaIntG
namespace Go.Proofs.Ythngkimncdpekaa
set_option linter.unusedVariables false
open Go.RowKit Go.Maps Go.Sort

section
variable {w : World} {b : Nat} {most seed : Int} {hb hc g cap : Nat} {lv fv : Value} {hd nx : List Int} {l : Nms} {fr : List Int} {many : Int}
theorem reads_set {v : Value} {xs : List Value} {k : Nat} (h : Reads w v xs) (hne : v.ownBlock ≠ some k) (o : Nat) (u : Value) : Reads (w.setCell ⟨k, o, none⟩ u) v xs :=
  h.only_ (S := fun g => g = k) ((Only.refl (fun g => g = k) w).setCell1 (g := k) (.inl rfl) o u) (fun g hg e => hne (by rw [hg, e]))
theorem owns_set {B : Nat} {e : TypeId} {s : Nat} {v : Value} {n : Nat} {xs : List Value} {k : Nat} (h : w.ownsRow B e s v n xs) (hne : v.ownBlock ≠ some k) (o : Nat) (u : Value) : (w.setCell ⟨k, o, none⟩ u).ownsRow B e s v n xs :=
  ownsRow_only (S := fun g => g = k) h ((Only.refl (fun g => g = k) w).setCell1 (g := k) (.inl rfl) o u) (fun g hg e => hne (by rw [hg, e]))
theorem Tb.drew (t : Tb w b most seed hb hc lv fv hd nx l fr many) : Tb w.drew b most seed hb hc lv fv hd nx l fr many := t.below (Below.refl _ _).drew
theorem Tb.drewN (t : Tb w b most seed hb hc lv fv hd nx l fr many) (n : Nat) : Tb (w.drewN n) b most seed hb hc lv fv hd nx l fr many := t.below (below_drewN (Below.refl _ _) n)
theorem Tb.setHead (t : Tb w b most seed hb hc lv fv hd nx l fr many) (i : Nat) (v : Int) : Tb (w.setCell ⟨hb, i, none⟩ (.int .i64 v)) b most seed hb hc lv fv (hd.set i v) nx l fr many := by
  obtain ⟨h1, _⟩ := t.heads.stored i (.int .i64 v)
  refine ⟨?_, ?_, owns_set t.list t.hl i _, reads_set t.free t.hf i _, t.len, by simpa using t.pos, by simpa using t.big, t.low, t.bh, t.bl, t.hl, t.bf, t.hf, t.lf, t.seed0, t.seed1, fun g hg => by simpa [World.setCell] using t.fl g hg⟩
  · rw [List.length_set]; exact Blk.far t.box t.bh _
  · rw [List.length_set, show i64s (hd.set i v) = (i64s hd).set i (.int .i64 v) from List.map_set ..]; exact h1
theorem Tb.setMany (t : Tb w b most seed hb hc lv fv hd nx l fr many) (v : Int) : Tb (w.setCell ⟨b, 5, none⟩ (.int .i64 v)) b most seed hb hc lv fv hd nx l fr v := by
  refine ⟨?_, owns_set t.heads (fun e => t.bh (by simp [Value.ownBlock] at e; exact e.symm)) 5 _, owns_set t.list t.bl 5 _, reads_set t.free t.bf 5 _, t.len, t.pos, t.big, t.low, t.bh, t.bl, t.hl, t.bf, t.hf, t.lf, t.seed0, t.seed1, fun g hg => by simpa [World.setCell] using t.fl g hg⟩
  exact Blk.set_ t.box 5 _
theorem Tb.setFree (t : Tb w b most seed hb hc lv fv hd nx l fr many) (v : Value) (fr' : List Int) (hr : Reads w v (i64s fr')) (h1 : v.ownBlock ≠ some b) (h2 : v.ownBlock ≠ some hb) (h3 : ∀ g, lv.ownBlock = some g → v.ownBlock ≠ some g) (h4 : ∀ g, v.ownBlock = some g → g < w.heap.size) :
    Tb (w.setCell ⟨b, 4, none⟩ v) b most seed hb hc lv v hd nx l fr' many := by
  refine ⟨?_, owns_set t.heads (fun e => t.bh (by simp [Value.ownBlock] at e; exact e.symm)) 4 _, owns_set t.list t.bl 4 _, reads_set hr h1 4 _, t.len, t.pos, t.big, t.low, t.bh, t.bl, t.hl, h1, h2, h3, t.seed0, t.seed1, fun g hg => by simpa [World.setCell] using h4 g hg⟩
  exact Blk.set_ t.box 4 _
theorem Tb.setNext (t : Tb w b most seed hb hc (.slice (some ⟨g, 0, none⟩) l.length cap) fv hd nx l fr many) {n : Nat} (hn : n < l.length) (v : Int) :
    Tb (w.setCell ⟨g, n * 3 + 2, none⟩ (.int .i64 v)) b most seed hb hc (.slice (some ⟨g, 0, none⟩) l.length cap) fv hd (nx.set n v) l fr many := by
  obtain ⟨h1, _⟩ := t.list.stored (n * 3 + 2) (.int .i64 v)
  have hgb : g ≠ b := fun e => t.bl (by rw [e]; rfl)
  have hgh : g ≠ hb := fun e => t.hl (by rw [e]; rfl)
  refine ⟨Blk.far t.box (fun e => hgb e.symm) _, owns_set t.heads (fun e => hgh (by simp [Value.ownBlock] at e; exact e.symm)) _ _, ?_, reads_set t.free (t.lf g rfl) _ _, by rw [List.length_set]; exact t.len, t.pos, t.big, t.low, t.bh, t.bl, t.hl, t.bf, t.hf, t.lf, t.seed0, t.seed1, fun g hg => by simpa [World.setCell] using t.fl g hg⟩
  rw [← nmCells_next v t.len hn]
  exact h1
theorem Tb.setRefs (t : Tb w b most seed hb hc (.slice (some ⟨g, 0, none⟩) l.length cap) fv hd nx l fr many) {n : Nat} (hn : n < l.length) (v : Int) :
    Tb (w.setCell ⟨g, n * 3 + 1, none⟩ (.int .i64 v)) b most seed hb hc (.slice (some ⟨g, 0, none⟩) (l.set n ((nmAt l n).1, v)).length cap) fv hd nx (l.set n ((nmAt l n).1, v)) fr many := by
  obtain ⟨h1, _⟩ := t.list.stored (n * 3 + 1) (.int .i64 v)
  have hgb : g ≠ b := fun e => t.bl (by rw [e]; rfl)
  have hgh : g ≠ hb := fun e => t.hl (by rw [e]; rfl)
  rw [List.length_set]
  refine ⟨Blk.far t.box (fun e => hgb e.symm) _, owns_set t.heads (fun e => hgh (by simp [Value.ownBlock] at e; exact e.symm)) _ _, ?_, reads_set t.free (t.lf g rfl) _ _, by rw [List.length_set]; exact t.len, t.pos, t.big, by rw [List.length_set]; exact t.low, t.bh, t.bl, t.hl, t.bf, t.hf, t.lf, t.seed0, t.seed1, fun g hg => by simpa [World.setCell] using t.fl g hg⟩
  rw [List.length_set, ← nmCells_refs v t.len hn]
  exact h1
/-- A name is written whole. -/
theorem Tb.setName (t : Tb w b most seed hb hc (.slice (some ⟨g, 0, none⟩) l.length cap) fv hd nx l fr many) {n : Nat} (hn : n < l.length) (s : List UInt8) (r v : Int) :
    Tb (((w.setCell ⟨g, n * 3, none⟩ (.string ⟨s.toArray⟩)).setCell ⟨g, n * 3 + 1, none⟩ (.int .i64 r)).setCell ⟨g, n * 3 + 2, none⟩ (.int .i64 v)) b most seed hb hc (.slice (some ⟨g, 0, none⟩) (l.set n (s, r)).length cap) fv hd (nx.set n v) (l.set n (s, r)) fr many := by
  obtain ⟨h1, _⟩ := t.list.stored (n * 3) (.string ⟨s.toArray⟩)
  obtain ⟨h2, _⟩ := h1.stored (n * 3 + 1) (.int .i64 r)
  obtain ⟨h3, _⟩ := h2.stored (n * 3 + 2) (.int .i64 v)
  have hgb : g ≠ b := fun e => t.bl (by rw [e]; rfl)
  have hgh : g ≠ hb := fun e => t.hl (by rw [e]; rfl)
  have hne : ∀ (o1 o2 o3 : Nat) (u1 u2 u3 : Value), Only (fun k => k = g) w (((w.setCell ⟨g, o1, none⟩ u1).setCell ⟨g, o2, none⟩ u2).setCell ⟨g, o3, none⟩ u3) := fun o1 o2 o3 u1 u2 u3 =>
    (((Only.refl (fun k => k = g) w).setCell1 (g := g) (.inl rfl) o1 u1).setCell1 (g := g) (.inl rfl) o2 u2).setCell1 (g := g) (.inl rfl) o3 u3
  rw [List.length_set]
  refine ⟨t.box.only (hne _ _ _ _ _ _) (fun e => hgb e.symm), ownsRow_only t.heads (hne _ _ _ _ _ _) (fun k hk e => hgh (by simp [Value.ownBlock] at hk; rw [← e, hk])), ?_, t.free.only_ (hne _ _ _ _ _ _) (fun k hk e => t.lf g rfl (by rw [hk, e])), by rw [List.length_set, List.length_set]; exact t.len, t.pos, t.big, by rw [List.length_set]; exact t.low, t.bh, t.bl, t.hl, t.bf, t.hf, t.lf, t.seed0, t.seed1, fun g hg => by simpa [World.setCell] using t.fl g hg⟩
  rw [List.length_set, ← nmCells_set s r v t.len hn]
  exact h3
end
end Go.Proofs.Ythngkimncdpekaa
