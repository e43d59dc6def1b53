/- A table of names in memory; its head and find. -/
import Derived.Test.YthngkimncdpekaaIntA
import Derived.Test.YthngkimncdpekaaOnly
import Derived.Test.YthngkimncdpekaaRepeat
import Derived.Deep.LoopGhost
import Derived.Lib.EndianBits
namespace Go.Proofs.Ythngkimncdpekaa
set_option linter.unusedVariables false
open Go.RowKit Go.Maps Go.Sort

/-- The cells of the list of names. -/
def nmCells : Nms → List Int → List Value
  | x :: l, n :: nx => .string ⟨x.1.toArray⟩ :: .int .i64 x.2 :: .int .i64 n :: nmCells l nx
  | _, _ => []
theorem nmCells_len : ∀ {l : Nms} {nx : List Int}, nx.length = l.length → (nmCells l nx).length = l.length * 3
  | [], _, _ => by simp [nmCells]
  | x :: l, [], h => by simp at h
  | x :: l, n :: nx, h => by
    simp only [nmCells, List.length_cons] at h ⊢
    rw [nmCells_len (by omega : nx.length = l.length)]
    omega
theorem nmCells_get : ∀ {l : Nms} {nx : List Int} {i : Nat}, nx.length = l.length → i < l.length →
    (nmCells l nx)[i * 3]? = some (.string ⟨(nmAt l i).1.toArray⟩) ∧ (nmCells l nx)[i * 3 + 1]? = some (.int .i64 (nmAt l i).2) ∧ (nmCells l nx)[i * 3 + 2]? = some (.int .i64 (nx.getD i 0))
  | [], _, _, _, hi => by simp at hi
  | x :: l, [], _, h, _ => by simp at h
  | x :: l, n :: nx, 0, h, hi => by simp [nmCells, nmAt]
  | x :: l, n :: nx, i + 1, h, hi => by
    simp only [List.length_cons] at h hi
    have := nmCells_get (l := l) (nx := nx) (i := i) (by omega) (by omega)
    have e : (i + 1) * 3 = i * 3 + 1 + 1 + 1 := by omega
    rw [e]
    simp only [nmCells, nmAt, List.getD_cons_succ, List.getElem?_cons_succ, show i * 3 + 1 + 1 + 1 + 1 = (i * 3 + 1) + 1 + 1 + 1 from rfl, show i * 3 + 1 + 1 + 1 + 2 = (i * 3 + 2) + 1 + 1 + 1 from rfl]
    exact this
theorem nmCells_set : ∀ {l : Nms} {nx : List Int} {i : Nat} (s : List UInt8) (r n : Int), nx.length = l.length → i < l.length →
    (((nmCells l nx).set (i * 3) (.string ⟨s.toArray⟩)).set (i * 3 + 1) (.int .i64 r)).set (i * 3 + 2) (.int .i64 n) = nmCells (l.set i (s, r)) (nx.set i n)
  | [], _, _, _, _, _, _, hi => by simp at hi
  | x :: l, [], _, _, _, _, h, _ => by simp at h
  | x :: l, m :: nx, 0, s, r, n, h, hi => by simp [nmCells]
  | x :: l, m :: nx, i + 1, s, r, n, h, hi => by
    simp only [List.length_cons] at h hi
    have := nmCells_set (l := l) (nx := nx) (i := i) s r n (by omega) (by omega)
    have e : (i + 1) * 3 = i * 3 + 1 + 1 + 1 := by omega
    rw [e]
    simp only [nmCells, List.set_cons_succ, show i * 3 + 1 + 1 + 1 + 1 = (i * 3 + 1) + 1 + 1 + 1 from rfl, show i * 3 + 1 + 1 + 1 + 2 = (i * 3 + 2) + 1 + 1 + 1 from rfl, this]
theorem list_set_same {α : Type} {l : List α} {i : Nat} {x : α} (h : l[i]? = some x) : l.set i x = l := by
  obtain ⟨hi, rfl⟩ := List.getElem?_eq_some_iff.1 h
  exact List.set_getElem_self hi
theorem nx_same {nx : List Int} {i : Nat} (h : i < nx.length) : nx.set i (nx.getD i 0) = nx := by
  apply list_set_same
  rw [List.getD_eq_getElem?_getD, List.getElem?_eq_getElem h]; rfl
theorem nm_same {l : Nms} {i : Nat} (h : i < l.length) : l.set i ((nmAt l i).1, (nmAt l i).2) = l := list_set_same (nmAt_get h)
theorem nmCells_refs {l : Nms} {nx : List Int} {i : Nat} (r : Int) (h : nx.length = l.length) (hi : i < l.length) : (nmCells l nx).set (i * 3 + 1) (.int .i64 r) = nmCells (l.set i ((nmAt l i).1, r)) nx := by
  obtain ⟨g0, g1, g2⟩ := nmCells_get (nx := nx) h hi
  have := nmCells_set (nx := nx) (nmAt l i).1 r (nx.getD i 0) h hi
  rw [nx_same (by omega), list_set_same g0] at this
  rw [← this]
  symm
  apply list_set_same
  rw [List.getElem?_set_ne (by omega)]
  exact g2
theorem nmCells_next {l : Nms} {nx : List Int} {i : Nat} (n : Int) (h : nx.length = l.length) (hi : i < l.length) : (nmCells l nx).set (i * 3 + 2) (.int .i64 n) = nmCells l (nx.set i n) := by
  obtain ⟨g0, g1, g2⟩ := nmCells_get (nx := nx) h hi
  have := nmCells_set (nx := nx) (nmAt l i).1 (nmAt l i).2 n h hi
  rw [nm_same hi, list_set_same g0, list_set_same g1] at this
  exact this
theorem nmCells_snoc : ∀ {l : Nms} {nx : List Int} (x : List UInt8 × Int) (n : Int), nx.length = l.length → nmCells (l ++ [x]) (nx ++ [n]) = nmCells l nx ++ [.string ⟨x.1.toArray⟩, .int .i64 x.2, .int .i64 n]
  | [], [], x, n, _ => by simp [nmCells]
  | [], m :: nx, _, _, h => by simp at h
  | y :: l, [], _, _, h => by simp at h
  | y :: l, m :: nx, x, n, h => by
    simp only [List.length_cons] at h
    simp only [nmCells, List.cons_append]
    rw [nmCells_snoc x n (by omega)]
theorem nmCells_one : ∀ {l : Nms} {nx : List Int}, ∀ u ∈ nmCells l nx, u.oneCell' = true
  | [], _, u, hu => by simp [nmCells] at hu
  | x :: l, [], u, hu => by simp [nmCells] at hu
  | x :: l, n :: nx, u, hu => by
    simp only [nmCells, List.mem_cons] at hu
    rcases hu with rfl | rfl | rfl | hu
    · rfl
    · rfl
    · rfl
    · exact nmCells_one u hu

abbrev tbCells (most seed : Int) (hv lv fv : Value) (many : Int) : Array Value := #[.int .i64 most, .int .u64 seed, hv, lv, fv, .int .i64 many]
def inO (b hb : Nat) (lv fv : Value) (g : Nat) : Prop := g = b ∨ g = hb ∨ lv.ownBlock = some g ∨ fv.ownBlock = some g
/-- A table in memory, part by part. -/
structure Tb (w : World) (b : Nat) (most seed : Int) (hb hc : Nat) (lv fv : Value) (hd nx : List Int) (l : Nms) (fr : List Int) (many : Int) : Prop where
  box : Blk w b 145 (tbCells most seed (.slice (some ⟨hb, 0, none⟩) hd.length hc) lv fv many)
  heads : w.ownsRow 0 3 1 (.slice (some ⟨hb, 0, none⟩) hd.length hc) hd.length (i64s hd)
  list : w.ownsRow 0 152 3 lv l.length (nmCells l nx)
  free : Reads w fv (i64s fr)
  len : nx.length = l.length
  pos : 0 < hd.length
  big : hd.length ≤ 1000000
  low : l.length ≤ 100000
  bh : b ≠ hb
  bl : lv.ownBlock ≠ some b
  hl : lv.ownBlock ≠ some hb
  bf : fv.ownBlock ≠ some b
  hf : fv.ownBlock ≠ some hb
  lf : ∀ g, lv.ownBlock = some g → fv.ownBlock ≠ some g
  seed0 : 0 ≤ seed
  seed1 : seed ≤ 18446744073709551615
  fl : ∀ g, fv.ownBlock = some g → g < w.heap.size
section
variable {w w' : World} {b : Nat} {most seed : Int} {hb hc : Nat} {lv fv : Value} {hd nx : List Int} {l : Nms} {fr : List Int} {many : Int}
theorem Tb.only {S : Nat → Prop} (t : Tb w b most seed hb hc lv fv hd nx l fr many) (ho : Only S w w') (hn : ∀ g, inO b hb lv fv g → ¬ S g) : Tb w' b most seed hb hc lv fv hd nx l fr many :=
  ⟨t.box.only ho (hn b (.inl rfl)), ownsRow_only t.heads ho (fun g hg => by simp [Value.ownBlock] at hg; exact hn g (.inr (.inl hg.symm))), ownsRow_only t.list ho (fun g hg => hn g (.inr (.inr (.inl hg)))),
    t.free.only_ ho (fun g hg => hn g (.inr (.inr (.inr hg)))), t.len, t.pos, t.big, t.low, t.bh, t.bl, t.hl, t.bf, t.hf, t.lf, t.seed0, t.seed1, fun g hg => Nat.lt_of_lt_of_le (t.fl g hg) ho.size⟩
theorem Tb.below (t : Tb w b most seed hb hc lv fv hd nx l fr many) (ho : Below w.heap.size w w') : Tb w' b most seed hb hc lv fv hd nx l fr many := t.only (Only.of_below ho (fun _ => False)) (fun _ _ h => h)
theorem Tb.cells (t : Tb w b most seed hb hc lv fv hd nx l fr many) : w.cell? ⟨b, 0, none⟩ = some (.int .i64 most) ∧ w.cell? ⟨b, 1, none⟩ = some (.int .u64 seed) ∧ w.cell? ⟨b, 2, none⟩ = some (.slice (some ⟨hb, 0, none⟩) hd.length hc) ∧ w.cell? ⟨b, 3, none⟩ = some lv ∧ w.cell? ⟨b, 4, none⟩ = some fv ∧ w.cell? ⟨b, 5, none⟩ = some (.int .i64 many) :=
  ⟨Blk.cell t.box 0, Blk.cell t.box 1, Blk.cell t.box 2, Blk.cell t.box 3, Blk.cell t.box 4, Blk.cell t.box 5⟩
theorem Tb.head (t : Tb w b most seed hb hc lv fv hd nx l fr many) {i : Nat} (hi : i < hd.length) : w.cell? ⟨hb, i, none⟩ = some (.int .i64 (hd.getD i 0)) := by
  rw [t.heads.cellAt i (by omega), List.getElem?_map, List.getElem?_eq_getElem hi, List.getD_eq_getElem?_getD, List.getElem?_eq_getElem hi]
  rfl
theorem Tb.lform (t : Tb w b most seed hb hc lv fv hd nx l fr many) (hl : 0 < l.length) : ∃ g cap, lv = .slice (some ⟨g, 0, none⟩) l.length cap ∧ g < w.heap.size ∧ g ≠ b ∧ g ≠ hb := by
  obtain ⟨g, cap, he, _, hgs⟩ := t.list.form hl
  refine ⟨g, cap, he, hgs, fun e => t.bl (by rw [he, e]; rfl), fun e => t.hl (by rw [he, e]; rfl)⟩
theorem Tb.names {g cap : Nat} (t : Tb w b most seed hb hc (.slice (some ⟨g, 0, none⟩) l.length cap) fv hd nx l fr many) {i : Nat} (hi : i < l.length) :
    w.cell? ⟨g, i * 3, none⟩ = some (.string ⟨(nmAt l i).1.toArray⟩) ∧ w.cell? ⟨g, i * 3 + 1, none⟩ = some (.int .i64 (nmAt l i).2) ∧ w.cell? ⟨g, i * 3 + 2, none⟩ = some (.int .i64 (nx.getD i 0)) := by
  obtain ⟨g0, g1, g2⟩ := nmCells_get (nx := nx) t.len hi
  exact ⟨(t.list.cellAt _ (by omega)).trans g0, (t.list.cellAt _ (by omega)).trans g1, (t.list.cellAt _ (by omega)).trans g2⟩
end

theorem hs_lt {hd : List Int} (h : 0 < hd.length) (seed : Int) (s : List UInt8) : hsN seed s % hd.length < hd.length := Nat.mod_lt _ h
set_option maxHeartbeats 2000000 in
set_option maxRecDepth 100000 in
theorem head_any {w : World} {b : Nat} {most seed : Int} {hb hc : Nat} {lv fv : Value} {hd nx : List Int} {l : Nms} {fr : List Int} {many : Int} (t : Tb w b most seed hb hc lv fv hd nx l fr many) (s : ByteArray) (hs : s.size ≤ 140737488355328) :
    Calls Try.prog 88 #[.pointer (some ⟨b, 0, none⟩), .string s] w fun e w' => e = .returned (.pointer (some ⟨hb, hsN seed s.data.toList % hd.length, none⟩)) ∧ Below w.heap.size w w' := by
  obtain ⟨c0, c1, c2, c3, c4, c5⟩ := t.cells
  have hlt := hs_lt t.pos seed s.data.toList
  have HS := Lib.hid (fun w => sum_any seed t.seed0 t.seed1 s hs w)
  have hS0 : 0 ≤ sumF seed s.data.toList := (mixF_is _).1
  have hS1 : sumF seed s.data.toList ≤ 18446744073709551615 := (mixF_is _).2
  have hb1 := t.big
  have hp := t.pos
  have q2 : (sumF seed s.data.toList).tmod (hd.length : Int) = ((hsN seed s.data.toList % hd.length : Nat) : Int) := by
    unfold hsN
    rw [Int.tmod_eq_emod_of_nonneg hS0, Int.natCast_emod, Int.toNat_of_nonneg hS0]
  have q1 : IntKind.u64.wrap (hd.length : Int) = (hd.length : Int) := wraps_u64 _ (by omega) (by omega)
  generalize hsN seed s.data.toList % hd.length = i at *
  generalize sumF seed s.data.toList = S at *
  generalize hd.length = H at *
  have h0 : ((H : Int) == 0) = false := by rw [beq_eq_false_iff_ne]; omega
  have hi0 : (0 : Int) ≤ (i : Int) := by omega
  have hi1 : (i : Int) < (H : Int) := by omega
  clear t
  go_enter Try.func88, Try.ntmps88
  go_wp2_with fail
  go_quiet ((go_at_call 103; refine Calls.quiet_of_same ((HS.out _).mono fun _ _ h => ⟨h.1, h.2.symm⟩)))
  go_wp2_with fail
  go_ret
  exact ⟨by simp, below_drewN (Below.refl _ _) _⟩
end Go.Proofs.Ythngkimncdpekaa
