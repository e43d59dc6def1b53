/- Copy. -/
import Derived.Test.YtfpkeinknhijaaaGreatIntA
import Derived.Test.YtfpkeinknhijaaaGreatOnly
import Derived.Test.YtfpkeinknhijaaaGreatRepeat
import Derived.Deep.LoopGhost
import Derived.Lib.EndianBits
import Derived.RegionTactic
import Derived.ChangeAlike
import Derived.Deep.DeepCutAuto
import Derived.BigRegion
import Derived.Maps.AppendAt
import Derived.Test.YtfpkeinknhijaaaGreatInsert
import Derived.Sort.KeysCollected
import Derived.Sort.OwnSorted
import Derived.Deep.RegionHeld3
/- A table of names in memory; its head and find. -/
namespace Go.Proofs.YtfpkeinknhijaaaGreat
set_option linter.unusedVariables false
open Go.RowKit Go.Maps Go.Sort

/-- The cells of the list of names. -/
def nmCells : Nms → List Int → List Value
  | x :: l, n :: nx => .string ⟨x.1.toArray⟩ :: .int .i64 x.2 :: .int .i64 n :: nmCells l nx
  | _, _ => []
theorem nmCells_len : ∀ {l : Nms} {nx : List Int}, nx.length = l.length → (nmCells l nx).length = l.length * 3
  | [], _, _ => by simp [nmCells]
  | x :: l, [], h => by simp at h
  | x :: l, n :: nx, h => by
    simp only [nmCells, List.length_cons] at h ⊢
    rw [nmCells_len (by omega : nx.length = l.length)]
    omega
theorem nmCells_get : ∀ {l : Nms} {nx : List Int} {i : Nat}, nx.length = l.length → i < l.length →
    (nmCells l nx)[i * 3]? = some (.string ⟨(nmAt l i).1.toArray⟩) ∧ (nmCells l nx)[i * 3 + 1]? = some (.int .i64 (nmAt l i).2) ∧ (nmCells l nx)[i * 3 + 2]? = some (.int .i64 (nx.getD i 0))
  | [], _, _, _, hi => by simp at hi
  | x :: l, [], _, h, _ => by simp at h
  | x :: l, n :: nx, 0, h, hi => by simp [nmCells, nmAt]
  | x :: l, n :: nx, i + 1, h, hi => by
    simp only [List.length_cons] at h hi
    have := nmCells_get (l := l) (nx := nx) (i := i) (by omega) (by omega)
    have e : (i + 1) * 3 = i * 3 + 1 + 1 + 1 := by omega
    rw [e]
    simp only [nmCells, nmAt, List.getD_cons_succ, List.getElem?_cons_succ, show i * 3 + 1 + 1 + 1 + 1 = (i * 3 + 1) + 1 + 1 + 1 from rfl, show i * 3 + 1 + 1 + 1 + 2 = (i * 3 + 2) + 1 + 1 + 1 from rfl]
    exact this
theorem nmCells_set : ∀ {l : Nms} {nx : List Int} {i : Nat} (s : List UInt8) (r n : Int), nx.length = l.length → i < l.length →
    (((nmCells l nx).set (i * 3) (.string ⟨s.toArray⟩)).set (i * 3 + 1) (.int .i64 r)).set (i * 3 + 2) (.int .i64 n) = nmCells (l.set i (s, r)) (nx.set i n)
  | [], _, _, _, _, _, _, hi => by simp at hi
  | x :: l, [], _, _, _, _, h, _ => by simp at h
  | x :: l, m :: nx, 0, s, r, n, h, hi => by simp [nmCells]
  | x :: l, m :: nx, i + 1, s, r, n, h, hi => by
    simp only [List.length_cons] at h hi
    have := nmCells_set (l := l) (nx := nx) (i := i) s r n (by omega) (by omega)
    have e : (i + 1) * 3 = i * 3 + 1 + 1 + 1 := by omega
    rw [e]
    simp only [nmCells, List.set_cons_succ, show i * 3 + 1 + 1 + 1 + 1 = (i * 3 + 1) + 1 + 1 + 1 from rfl, show i * 3 + 1 + 1 + 1 + 2 = (i * 3 + 2) + 1 + 1 + 1 from rfl, this]
theorem list_set_same {α : Type} {l : List α} {i : Nat} {x : α} (h : l[i]? = some x) : l.set i x = l := by
  obtain ⟨hi, rfl⟩ := List.getElem?_eq_some_iff.1 h
  exact List.set_getElem_self hi
theorem nx_same {nx : List Int} {i : Nat} (h : i < nx.length) : nx.set i (nx.getD i 0) = nx := by
  apply list_set_same
  rw [List.getD_eq_getElem?_getD, List.getElem?_eq_getElem h]; rfl
theorem nm_same {l : Nms} {i : Nat} (h : i < l.length) : l.set i ((nmAt l i).1, (nmAt l i).2) = l := list_set_same (nmAt_get h)
theorem nmCells_refs {l : Nms} {nx : List Int} {i : Nat} (r : Int) (h : nx.length = l.length) (hi : i < l.length) : (nmCells l nx).set (i * 3 + 1) (.int .i64 r) = nmCells (l.set i ((nmAt l i).1, r)) nx := by
  obtain ⟨g0, g1, g2⟩ := nmCells_get (nx := nx) h hi
  have := nmCells_set (nx := nx) (nmAt l i).1 r (nx.getD i 0) h hi
  rw [nx_same (by omega), list_set_same g0] at this
  rw [← this]
  symm
  apply list_set_same
  rw [List.getElem?_set_ne (by omega)]
  exact g2
theorem nmCells_next {l : Nms} {nx : List Int} {i : Nat} (n : Int) (h : nx.length = l.length) (hi : i < l.length) : (nmCells l nx).set (i * 3 + 2) (.int .i64 n) = nmCells l (nx.set i n) := by
  obtain ⟨g0, g1, g2⟩ := nmCells_get (nx := nx) h hi
  have := nmCells_set (nx := nx) (nmAt l i).1 (nmAt l i).2 n h hi
  rw [nm_same hi, list_set_same g0, list_set_same g1] at this
  exact this
theorem nmCells_snoc : ∀ {l : Nms} {nx : List Int} (x : List UInt8 × Int) (n : Int), nx.length = l.length → nmCells (l ++ [x]) (nx ++ [n]) = nmCells l nx ++ [.string ⟨x.1.toArray⟩, .int .i64 x.2, .int .i64 n]
  | [], [], x, n, _ => by simp [nmCells]
  | [], m :: nx, _, _, h => by simp at h
  | y :: l, [], _, _, h => by simp at h
  | y :: l, m :: nx, x, n, h => by
    simp only [List.length_cons] at h
    simp only [nmCells, List.cons_append]
    rw [nmCells_snoc x n (by omega)]
theorem nmCells_one : ∀ {l : Nms} {nx : List Int}, ∀ u ∈ nmCells l nx, u.oneCell' = true
  | [], _, u, hu => by simp [nmCells] at hu
  | x :: l, [], u, hu => by simp [nmCells] at hu
  | x :: l, n :: nx, u, hu => by
    simp only [nmCells, List.mem_cons] at hu
    rcases hu with rfl | rfl | rfl | hu
    · rfl
    · rfl
    · rfl
    · exact nmCells_one u hu

abbrev tbCells (most seed : Int) (hv lv fv : Value) (many : Int) : Array Value := #[.int .i64 most, .int .u64 seed, hv, lv, fv, .int .i64 many]
def inO (b hb : Nat) (lv fv : Value) (g : Nat) : Prop := g = b ∨ g = hb ∨ lv.ownBlock = some g ∨ fv.ownBlock = some g
/-- A table in memory, part by part. -/
structure Tb (w : World) (b : Nat) (most seed : Int) (hb hc : Nat) (lv fv : Value) (hd nx : List Int) (l : Nms) (fr : List Int) (many : Int) : Prop where
  box : Blk w b 100 (tbCells most seed (.slice (some ⟨hb, 0, none⟩) hd.length hc) lv fv many)
  heads : w.ownsRow 0 3 1 (.slice (some ⟨hb, 0, none⟩) hd.length hc) hd.length (i64s hd)
  list : w.ownsRow 0 123 3 lv l.length (nmCells l nx)
  free : Reads w fv (i64s fr)
  len : nx.length = l.length
  pos : 0 < hd.length
  big : hd.length ≤ 1000000
  low : l.length ≤ 100000
  bh : b ≠ hb
  bl : lv.ownBlock ≠ some b
  hl : lv.ownBlock ≠ some hb
  bf : fv.ownBlock ≠ some b
  hf : fv.ownBlock ≠ some hb
  lf : ∀ g, lv.ownBlock = some g → fv.ownBlock ≠ some g
  seed0 : 0 ≤ seed
  seed1 : seed ≤ 18446744073709551615
  fl : ∀ g, fv.ownBlock = some g → g < w.heap.size
section
variable {w w' : World} {b : Nat} {most seed : Int} {hb hc : Nat} {lv fv : Value} {hd nx : List Int} {l : Nms} {fr : List Int} {many : Int}
theorem Tb.only {S : Nat → Prop} (t : Tb w b most seed hb hc lv fv hd nx l fr many) (ho : Only S w w') (hn : ∀ g, inO b hb lv fv g → ¬ S g) : Tb w' b most seed hb hc lv fv hd nx l fr many :=
  ⟨t.box.only ho (hn b (.inl rfl)), ownsRow_only t.heads ho (fun g hg => by simp [Value.ownBlock] at hg; exact hn g (.inr (.inl hg.symm))), ownsRow_only t.list ho (fun g hg => hn g (.inr (.inr (.inl hg)))),
    t.free.only_ ho (fun g hg => hn g (.inr (.inr (.inr hg)))), t.len, t.pos, t.big, t.low, t.bh, t.bl, t.hl, t.bf, t.hf, t.lf, t.seed0, t.seed1, fun g hg => Nat.lt_of_lt_of_le (t.fl g hg) ho.size⟩
theorem Tb.below (t : Tb w b most seed hb hc lv fv hd nx l fr many) (ho : Below w.heap.size w w') : Tb w' b most seed hb hc lv fv hd nx l fr many := t.only (Only.of_below ho (fun _ => False)) (fun _ _ h => h)
theorem Tb.cells (t : Tb w b most seed hb hc lv fv hd nx l fr many) : w.cell? ⟨b, 0, none⟩ = some (.int .i64 most) ∧ w.cell? ⟨b, 1, none⟩ = some (.int .u64 seed) ∧ w.cell? ⟨b, 2, none⟩ = some (.slice (some ⟨hb, 0, none⟩) hd.length hc) ∧ w.cell? ⟨b, 3, none⟩ = some lv ∧ w.cell? ⟨b, 4, none⟩ = some fv ∧ w.cell? ⟨b, 5, none⟩ = some (.int .i64 many) :=
  ⟨Blk.cell t.box 0, Blk.cell t.box 1, Blk.cell t.box 2, Blk.cell t.box 3, Blk.cell t.box 4, Blk.cell t.box 5⟩
theorem Tb.head (t : Tb w b most seed hb hc lv fv hd nx l fr many) {i : Nat} (hi : i < hd.length) : w.cell? ⟨hb, i, none⟩ = some (.int .i64 (hd.getD i 0)) := by
  rw [t.heads.cellAt i (by omega), List.getElem?_map, List.getElem?_eq_getElem hi, List.getD_eq_getElem?_getD, List.getElem?_eq_getElem hi]
  rfl
theorem Tb.lform (t : Tb w b most seed hb hc lv fv hd nx l fr many) (hl : 0 < l.length) : ∃ g cap, lv = .slice (some ⟨g, 0, none⟩) l.length cap ∧ g < w.heap.size ∧ g ≠ b ∧ g ≠ hb := by
  obtain ⟨g, cap, he, _, hgs⟩ := t.list.form hl
  refine ⟨g, cap, he, hgs, fun e => t.bl (by rw [he, e]; rfl), fun e => t.hl (by rw [he, e]; rfl)⟩
theorem Tb.names {g cap : Nat} (t : Tb w b most seed hb hc (.slice (some ⟨g, 0, none⟩) l.length cap) fv hd nx l fr many) {i : Nat} (hi : i < l.length) :
    w.cell? ⟨g, i * 3, none⟩ = some (.string ⟨(nmAt l i).1.toArray⟩) ∧ w.cell? ⟨g, i * 3 + 1, none⟩ = some (.int .i64 (nmAt l i).2) ∧ w.cell? ⟨g, i * 3 + 2, none⟩ = some (.int .i64 (nx.getD i 0)) := by
  obtain ⟨g0, g1, g2⟩ := nmCells_get (nx := nx) t.len hi
  exact ⟨(t.list.cellAt _ (by omega)).trans g0, (t.list.cellAt _ (by omega)).trans g1, (t.list.cellAt _ (by omega)).trans g2⟩
end

theorem hs_lt {hd : List Int} (h : 0 < hd.length) (seed : Int) (s : List UInt8) : hsN seed s % hd.length < hd.length := Nat.mod_lt _ h
set_option maxHeartbeats 2000000 in
set_option maxRecDepth 100000 in
theorem head_any {w : World} {b : Nat} {most seed : Int} {hb hc : Nat} {lv fv : Value} {hd nx : List Int} {l : Nms} {fr : List Int} {many : Int} (t : Tb w b most seed hb hc lv fv hd nx l fr many) (s : ByteArray) (hs : s.size ≤ 140737488355328) :
    Calls Tryz.prog 80 #[.pointer (some ⟨b, 0, none⟩), .string s] w fun e w' => e = .returned (.pointer (some ⟨hb, hsN seed s.data.toList % hd.length, none⟩)) ∧ Below w.heap.size w w' := by
  obtain ⟨c0, c1, c2, c3, c4, c5⟩ := t.cells
  have hlt := hs_lt t.pos seed s.data.toList
  have HS := Lib.hid (fun w => sum_any seed t.seed0 t.seed1 s hs w)
  have hS0 : 0 ≤ sumF seed s.data.toList := (mixF_is _).1
  have hS1 : sumF seed s.data.toList ≤ 18446744073709551615 := (mixF_is _).2
  have hb1 := t.big
  have hp := t.pos
  have q2 : (sumF seed s.data.toList).tmod (hd.length : Int) = ((hsN seed s.data.toList % hd.length : Nat) : Int) := by
    unfold hsN
    rw [Int.tmod_eq_emod_of_nonneg hS0, Int.natCast_emod, Int.toNat_of_nonneg hS0]
  have q1 : IntKind.u64.wrap (hd.length : Int) = (hd.length : Int) := wraps_u64 _ (by omega) (by omega)
  generalize hsN seed s.data.toList % hd.length = i at *
  generalize sumF seed s.data.toList = S at *
  generalize hd.length = H at *
  have h0 : ((H : Int) == 0) = false := by rw [beq_eq_false_iff_ne]; omega
  have hi0 : (0 : Int) ≤ (i : Int) := by omega
  have hi1 : (i : Int) < (H : Int) := by omega
  clear t
  go_enter Tryz.func80, Tryz.ntmps80
  go_wp2_with fail
  go_quiet ((go_at_call 88; refine Calls.quiet_of_same ((HS.out _).mono fun _ _ h => ⟨h.1, h.2.symm⟩)))
  go_wp2_with fail
  go_ret
  exact ⟨by simp, below_drewN (Below.refl _ _) _⟩
end Go.Proofs.YtfpkeinknhijaaaGreat
/- The program's find, none, at; growing. -/
namespace Go.Proofs.YtfpkeinknhijaaaGreat
set_option linter.unusedVariables false
open Go.RowKit Go.Maps Go.Sort

theorem none_no {w : World} {b : Nat} {most : Int} (hc : w.cell? ⟨b, 0, none⟩ = some (.int .i64 most)) (hm : 1 ≤ most) :
    Calls Tryz.prog 72 #[.pointer (some ⟨b, 0, none⟩)] w fun e w' => e = .returned (.bool false) ∧ w = w' := by
  have h0 : (most == 0) = false := by rw [beq_eq_false_iff_ne]; omega
  go_enter Tryz.func72, Tryz.ntmps72
  go_wp2
  go_ret
  exact ⟨rfl, rfl⟩
theorem none_nil (w : World) :
    Calls Tryz.prog 72 #[.pointer none] w fun e w' => e = .returned (.bool true) ∧ w = w' := by
  go_enter Tryz.func72, Tryz.ntmps72
  go_wp2
  go_ret
  exact ⟨rfl, rfl⟩
theorem none_zero {w : World} {b : Nat} (hc : w.cell? ⟨b, 0, none⟩ = some (.int .i64 0)) :
    Calls Tryz.prog 72 #[.pointer (some ⟨b, 0, none⟩)] w fun e w' => e = .returned (.bool true) ∧ w = w' := by
  go_enter Tryz.func72, Tryz.ntmps72
  go_wp2
  go_ret
  exact ⟨rfl, rfl⟩

set_option maxHeartbeats 2000000 in
set_option maxRecDepth 100000 in
theorem find_any {w : World} {b : Nat} {most seed : Int} {hb hc : Nat} {lv fv : Value} {hd nx : List Int} {l : Nms} {fr : List Int} {many : Int} (t : Tb w b most seed hb hc lv fv hd nx l fr many)
    {ch : Nat → List Nat} (hch : Chains (hsN seed) hd nx l ch (fun _ => True)) (hdist : Distinct l) (s : ByteArray) (hs : s.size ≤ 140737488355328) :
    Calls Tryz.prog 78 #[.pointer (some ⟨b, 0, none⟩), .string s] w fun e w' => e = .returned (.int .i64 (idxI (findN l s.data.toList))) ∧ Below w.heap.size w w' := by
  have hlt := hs_lt t.pos seed s.data.toList
  have HH := Lib.hid (head_any t s hs)
  have HF := Lib.hid (chFind_is hch hdist s.data.toList)
  have HOK := Lib.hid (hch.ok _ hlt)
  have hhd := t.head hlt
  obtain ⟨i, hi⟩ : ∃ i, hsN seed s.data.toList % hd.length = i := ⟨_, rfl⟩
  rw [hi] at hlt HH HF HOK hhd
  clear hi
  generalize idxI (findN l s.data.toList) = F at *
  have T := Lib.hid t
  have HCH := Lib.hid hch
  have HL : Hid (∀ n ∈ ch i, liveB l n = true) := fun n hn => ((hch.mem _ hlt n).1 hn).2.1
  clear t hch hdist hlt
  generalize hd.getD i 0 = h at *
  go_enter Tryz.func78, Tryz.ntmps78
  go_wp2_with fail
  refine HH.out.mono ?_
  rintro e w1 ⟨rfl, b1⟩
  have hlt1 : hb < w.heap.size := (ownsRow_lt T.out.heads (g := hb) rfl)
  have hhd1 : w1.cell? ⟨hb, i, none⟩ = some (.int .i64 h) := (b1.cell (p := ⟨hb, i, none⟩) hlt1).trans hhd
  have T1 := Lib.hid (T.out.below b1)
  have B1 := Lib.hid b1
  clear HH hhd b1 hlt1
  go_wp2_with fail
  go_loopg [5] (ch i).length (fun k v wr => ∃ (c : List Nat) (h : Int), k = c.length ∧ v = .int .i64 h ∧ chainOk nx h c ∧ (∀ n ∈ c, liveB l n = true) ∧ chFind l s.data.toList c = F ∧ w1 = wr)
  case atStart => exact ⟨ch i, h, rfl, rfl, HOK.out, HL.out, HF.out, rfl⟩
  case round =>
    obtain ⟨c, h', hk, rfl, hok, hlive, hfind, rfl⟩ := hrel
    have HK := Lib.hid hk
    have HFI := Lib.hid hfind
    clear hk hfind hhd1
    cases c with
    | nil =>
      have hm1 : h' = -1 := hok
      subst hm1
      have hF : Hid (F = -1) := HFI.out.symm
      clear hok hlive HFI
      go_wp2_with fail
      go_ret
      exact ⟨by rw [hF.out]; rfl, B1.out⟩
    | cons n c =>
      obtain ⟨rfl, hn, hrest⟩ := hok
      have hn2 : n < l.length := by rw [← T.out.len]; exact hn
      obtain ⟨g, cap, hlv, hg, hgb, hgh⟩ := T.out.lform (by omega)
      subst hlv
      obtain ⟨n0, n1, n2⟩ := T1.out.names hn2
      obtain ⟨c0, c1, c2, c3, c4, c5⟩ := T1.out.cells
      have hlow := T.out.low
      generalize nx.getD n 0 = m at n2 hrest
      have HR := Lib.hid hrest
      have HLV := Lib.hid hlive
      by_cases he : (nmAt l n).1 = s.data.toList
      · have hF : Hid (F = (n : Int)) := by
          have := HFI.out
          unfold chFind at this
          rw [if_pos he] at this
          exact this.symm
        have hne : ((⟨(nmAt l n).1.toArray⟩ : ByteArray).toList == s.toList) = true := by
          rw [mk_toList, he, ByteArray.toList_eq]; simp
        clear HFI hrest hlive he c0 c1 c2 c4 c5 n1 n2
        generalize (⟨(nmAt l n).1.toArray⟩ : ByteArray) = S at *
        go_wp2_with fail
        go_ret
        exact ⟨by rw [hF.out]; rfl, B1.out⟩
      · have hF : Hid (chFind l s.data.toList c = F) := by
          have := HFI.out
          unfold chFind at this
          rw [if_neg he] at this
          exact this
        have hne : ((⟨(nmAt l n).1.toArray⟩ : ByteArray).toList == s.toList) = false := by
          rw [mk_toList, ByteArray.toList_eq, beq_eq_false_iff_ne]
          exact he
        clear HFI hrest hlive he c0 c1 c2 c4 c5 n1
        generalize (⟨(nmAt l n).1.toArray⟩ : ByteArray) = S at *
        go_wp2_with fail
        go_roundg c.length
        case measure => rw [HK.out]; simp
        case rel => exact ⟨c, m, rfl, rfl, HR.out, fun q hm => HLV.out q (by simp [hm]), hF.out, rfl⟩
end Go.Proofs.YtfpkeinknhijaaaGreat
/- A table as a whole; Find, at, Name, Refs, Len. -/
namespace Go.Proofs.YtfpkeinknhijaaaGreat
set_option linter.unusedVariables false
open Go.RowKit Go.Maps Go.Sort

abbrev freeI (l : Nms) : List Int := (freeL l).map (fun n : Nat => (n : Int))
/-- A table in memory: O its own blocks. -/
def Tab (w : World) (b : Nat) (O : Nat → Prop) (most seed : Int) (l : Nms) : Prop :=
  ∃ hb hc lv fv hd nx ch, Tb w b most seed hb hc lv fv hd nx l (freeI l) (liveN l) ∧ Chains (hsN seed) hd nx l ch (fun _ => True) ∧ (∀ g, O g ↔ inO b hb lv fv g) ∧ hd.length ≤ 140000
section
variable {w w' : World} {b : Nat} {O : Nat → Prop} {most seed : Int} {l : Nms}
theorem Tab.only {S : Nat → Prop} (t : Tab w b O most seed l) (ho : Only S w w') (hn : ∀ g, O g → ¬ S g) : Tab w' b O most seed l := by
  obtain ⟨hb, hc, lv, fv, hd, nx, ch, t1, t2, t3, t4⟩ := t
  exact ⟨hb, hc, lv, fv, hd, nx, ch, t1.only ho (fun g hg => hn g ((t3 g).2 hg)), t2, t3, t4⟩
theorem Tab.below (t : Tab w b O most seed l) (ho : Below w.heap.size w w') : Tab w' b O most seed l := t.only (Only.of_below ho (fun _ => False)) (fun _ _ h => h)
theorem Tab.box (t : Tab w b O most seed l) : w.cell? ⟨b, 0, none⟩ = some (.int .i64 most) := by
  obtain ⟨hb, hc, lv, fv, hd, nx, ch, t1, _⟩ := t
  exact t1.cells.1
theorem Tab.own (t : Tab w b O most seed l) : O b ∧ b < w.heap.size := by
  obtain ⟨hb, hc, lv, fv, hd, nx, ch, t1, _, t3, t4⟩ := t
  exact ⟨(t3 b).2 (.inl rfl), t1.box.lt⟩
theorem Tab.lt (t : Tab w b O most seed l) {g : Nat} (hg : O g) : g < w.heap.size := by
  obtain ⟨hb, hc, lv, fv, hd, nx, ch, t1, _, t3, t4⟩ := t
  rcases (t3 g).1 hg with rfl | rfl | h | h
  · exact t1.box.lt
  · exact ownsRow_lt t1.heads rfl
  · exact ownsRow_lt t1.list h
  · exact t1.fl g h
theorem Tab.low (t : Tab w b O most seed l) : l.length ≤ 100000 := by
  obtain ⟨hb, hc, lv, fv, hd, nx, ch, t1, _, t3, t4⟩ := t
  exact t1.low
end

section
variable {w : World} {b : Nat} {O : Nat → Prop} {most seed R : Int} {l : Nms} (t : Tab w b O most seed l) (hm : 1 ≤ most) (hw : Wf most R l)
include t hm hw
set_option maxHeartbeats 1000000 in
theorem tfind_any (s : ByteArray) (hs : s.size ≤ 140737488355328) :
    Calls Tryz.prog 70 #[.pointer (some ⟨b, 0, none⟩), .string s] w fun e w' => e = .returned (.tuple #[.int .i64 (findM l s.data.toList).1, .int .i64 (findM l s.data.toList).2]) ∧ Below w.heap.size w w' := by
  have HN := Lib.hid (none_no t.box hm)
  rcases Bool.eq_false_or_eq_true (validB s.data.toList) with hv | hv
  · have HV := Lib.hid (fun w => valid_yes s hv w)
    obtain ⟨hb, hc, lv, fv, hd', nx, ch, t1, t2, t3, t4⟩ := t
    have HF := Lib.hid (find_any t1 t2 hw.dist s hs)
    cases hf : findN l s.data.toList with
    | some n =>
      have hM : Hid (findM l s.data.toList = ((n : Int), 0)) := by unfold findM Hid; rw [if_pos hv, hf]
      rw [hf] at HF
      clear t1 t2 t3 hw hf hv
      change Hid (Calls _ _ _ _ fun e w' => e = .returned (.int .i64 (n : Int)) ∧ _) at HF
      go_enter Tryz.func70, Tryz.ntmps70
      go_wp2_with (first
        | (go_at_call 72; refine HN.out.mono ?_; rintro e w1 ⟨rfl, rfl⟩)
        | (go_at_call 77; refine (HV.out _).mono ?_; rintro e w1 ⟨rfl, rfl⟩)
        | (go_at_call 78; refine HF.out.mono ?_; rintro e w1 ⟨rfl, b1⟩))
      go_ret2
      exact ⟨by rw [hM.out]; rfl, b1⟩
    | none =>
      have hM : Hid (findM l s.data.toList = (0, 9)) := by unfold findM Hid; rw [if_pos hv, hf]
      rw [hf] at HF
      clear t1 t2 t3 hw hf hv
      change Hid (Calls _ _ _ _ fun e w' => e = .returned (.int .i64 (-1)) ∧ _) at HF
      go_enter Tryz.func70, Tryz.ntmps70
      go_wp2_with (first
        | (go_at_call 72; refine HN.out.mono ?_; rintro e w1 ⟨rfl, rfl⟩)
        | (go_at_call 77; refine (HV.out _).mono ?_; rintro e w1 ⟨rfl, rfl⟩)
        | (go_at_call 78; refine HF.out.mono ?_; rintro e w1 ⟨rfl, b1⟩))
      go_ret2
      exact ⟨by rw [hM.out]; rfl, b1⟩
  · have HV := Lib.hid (fun w => valid_no s hv w)
    have hM : Hid (findM l s.data.toList = (0, 2)) := by unfold findM Hid; rw [if_neg (by rw [hv]; decide)]
    clear hv t hw
    go_enter Tryz.func70, Tryz.ntmps70
    go_wp2_with (first
      | (go_at_call 72; refine HN.out.mono ?_; rintro e w1 ⟨rfl, rfl⟩)
      | (go_at_call 77; refine (HV.out _).mono ?_; rintro e w1 ⟨rfl, rfl⟩))
    go_ret2
    exact ⟨by rw [hM.out]; rfl, Below.refl _ _⟩
set_option maxHeartbeats 1000000 in
theorem at_no (n : Int) (h : hasM l n = false) :
    Calls Tryz.prog 81 #[.pointer (some ⟨b, 0, none⟩), .int .i64 n] w fun e w' => e = .returned (.tuple #[.pointer none, .int .i64 9]) ∧ w = w' := by
  have HN := Lib.hid (none_no t.box hm)
  by_cases h0 : n < 0
  · clear t hw
    go_enter Tryz.func81, Tryz.ntmps81
    go_wp2_with (go_at_call 72; refine HN.out.mono ?_; rintro e w1 ⟨rfl, rfl⟩)
    go_ret2
    exact ⟨rfl, rfl⟩
  · obtain ⟨k, rfl⟩ := Int.eq_ofNat_of_zero_le (by omega : 0 ≤ n)
    have hlow := t.low
    obtain ⟨hb, hc, lv, fv, hd', nx, ch, t1, t2, t3, t4⟩ := t
    obtain ⟨c0, c1, c2, c3, c4, c5⟩ := t1.cells
    by_cases hk : k < l.length
    · obtain ⟨g, cap, rfl, _, _, _⟩ := t1.lform (by omega)
      obtain ⟨n0, n1, n2⟩ := t1.names hk
      have hr : (nmAt l k).2 ≤ 0 := by
        unfold hasM liveB at h
        simpa using h
      by_cases hz : (nmAt l k).2 = 0
      · rw [hz] at n1
        clear hw t1 t2 t3 h hr hz n0 n2 c0 c1 c2 c4 c5
        go_enter Tryz.func81, Tryz.ntmps81
        go_wp2_with (go_at_call 72; refine HN.out.mono ?_; rintro e w1 ⟨rfl, rfl⟩)
        go_ret2
        exact ⟨rfl, rfl⟩
      · exact absurd (Int.le_antisymm hr (hw.refs k).1) hz
    · obtain ⟨p, cap, rfl⟩ : ∃ p cap, lv = .slice p l.length cap := by
        rcases Nat.eq_zero_or_pos l.length with hz | hz
        · rcases t1.list.2 with ⟨rfl, _⟩ | ⟨g, cap, _, rfl, _⟩
          · exact ⟨none, 0, by rw [hz]⟩
          · exact ⟨_, _, rfl⟩
        · obtain ⟨g, cap, e, _⟩ := t1.lform hz
          exact ⟨_, _, e⟩
      clear hw t1 t2 t3 h c0 c1 c2 c4 c5
      go_enter Tryz.func81, Tryz.ntmps81
      go_wp2_with (go_at_call 72; refine HN.out.mono ?_; rintro e w1 ⟨rfl, rfl⟩)
      go_ret2
      exact ⟨rfl, rfl⟩
end
set_option maxHeartbeats 1000000 in
theorem at_yes {w : World} {b : Nat} {most seed : Int} {hb hc g cap : Nat} {fv : Value} {hd nx : List Int} {l : Nms} {fr : List Int} {many : Int} (t : Tb w b most seed hb hc (.slice (some ⟨g, 0, none⟩) l.length cap) fv hd nx l fr many) (hm : 1 ≤ most) (n : Nat) (h : liveB l n = true) :
    Calls Tryz.prog 81 #[.pointer (some ⟨b, 0, none⟩), .int .i64 n] w fun e w' => e = .returned (.tuple #[.pointer (some ⟨g, n * 3, none⟩), .int .i64 0]) ∧ w = w' := by
  obtain ⟨c0, c1, c2, c3, c4, c5⟩ := t.cells
  have HN := Lib.hid (none_no c0 hm)
  have hlow := t.low
  have hk := live_lt h
  obtain ⟨n0, n1, n2⟩ := t.names hk
  have hr : ((nmAt l n).2 == 0) = false := by
    rw [beq_eq_false_iff_ne]
    unfold liveB at h
    rw [decide_eq_true_eq] at h
    omega
  clear t h n0 n2 c0 c1 c2 c4 c5
  go_enter Tryz.func81, Tryz.ntmps81
  go_wp2_with (go_at_call 72; refine HN.out.mono ?_; rintro e w1 ⟨rfl, rfl⟩)
  go_ret2
  exact ⟨rfl, rfl⟩
theorem at_nil (n : Int) (w : World) :
    Calls Tryz.prog 81 #[.pointer none, .int .i64 n] w fun e w' => e = .returned (.tuple #[.pointer none, .int .i64 1]) ∧ w = w' := by
  have HN := Lib.hid none_nil
  go_enter Tryz.func81, Tryz.ntmps81
  go_wp2_with (go_at_call 72; refine (HN.out _).mono ?_; rintro e w1 ⟨rfl, rfl⟩)
  go_ret2
  exact ⟨rfl, rfl⟩
theorem at_zero {w : World} {b : Nat} (hc : w.cell? ⟨b, 0, none⟩ = some (.int .i64 0)) (n : Int) :
    Calls Tryz.prog 81 #[.pointer (some ⟨b, 0, none⟩), .int .i64 n] w fun e w' => e = .returned (.tuple #[.pointer none, .int .i64 1]) ∧ w = w' := by
  have HN := Lib.hid (none_zero hc)
  clear hc
  go_enter Tryz.func81, Tryz.ntmps81
  go_wp2_with (go_at_call 72; refine HN.out.mono ?_; rintro e w1 ⟨rfl, rfl⟩)
  go_ret2
  exact ⟨rfl, rfl⟩
section
variable {w : World} {b : Nat} {O : Nat → Prop} {most seed R : Int} {l : Nms} (t : Tab w b O most seed l) (hm : 1 ≤ most)
include t hm
theorem len_any :
    Calls Tryz.prog 75 #[.pointer (some ⟨b, 0, none⟩)] w fun e w' => e = .returned (.tuple #[.int .i64 (liveN l), .int .i64 most]) ∧ Below w.heap.size w w' := by
  obtain ⟨hb, hc, lv, fv, hd', nx, ch, t1, t2, t3, t4⟩ := t
  obtain ⟨c0, c1, c2, c3, c4, c5⟩ := t1.cells
  have HN := Lib.hid (none_no c0 hm)
  clear t1 t2 t3 c1 c2 c3 c4
  go_enter Tryz.func75, Tryz.ntmps75
  go_wp2_with (go_at_call 72; refine HN.out.mono ?_; rintro e w1 ⟨rfl, rfl⟩)
  go_quiet (fail)
  go_wp2_with fail
  go_ret2
  exact ⟨rfl, below_drewN (Below.refl _ _) _⟩
end
end Go.Proofs.YtfpkeinknhijaaaGreat
/- What stores make of a table in memory. -/
namespace Go.Proofs.YtfpkeinknhijaaaGreat
set_option linter.unusedVariables false
open Go.RowKit Go.Maps Go.Sort

section
variable {w : World} {b : Nat} {most seed : Int} {hb hc g cap : Nat} {lv fv : Value} {hd nx : List Int} {l : Nms} {fr : List Int} {many : Int}
theorem reads_set {v : Value} {xs : List Value} {k : Nat} (h : Reads w v xs) (hne : v.ownBlock ≠ some k) (o : Nat) (u : Value) : Reads (w.setCell ⟨k, o, none⟩ u) v xs :=
  h.only_ (S := fun g => g = k) ((Only.refl (fun g => g = k) w).setCell1 (g := k) (.inl rfl) o u) (fun g hg e => hne (by rw [hg, e]))
theorem owns_set {B : Nat} {e : TypeId} {s : Nat} {v : Value} {n : Nat} {xs : List Value} {k : Nat} (h : w.ownsRow B e s v n xs) (hne : v.ownBlock ≠ some k) (o : Nat) (u : Value) : (w.setCell ⟨k, o, none⟩ u).ownsRow B e s v n xs :=
  ownsRow_only (S := fun g => g = k) h ((Only.refl (fun g => g = k) w).setCell1 (g := k) (.inl rfl) o u) (fun g hg e => hne (by rw [hg, e]))
theorem Tb.drew (t : Tb w b most seed hb hc lv fv hd nx l fr many) : Tb w.drew b most seed hb hc lv fv hd nx l fr many := t.below (Below.refl _ _).drew
theorem Tb.drewN (t : Tb w b most seed hb hc lv fv hd nx l fr many) (n : Nat) : Tb (w.drewN n) b most seed hb hc lv fv hd nx l fr many := t.below (below_drewN (Below.refl _ _) n)
theorem Tb.setHead (t : Tb w b most seed hb hc lv fv hd nx l fr many) (i : Nat) (v : Int) : Tb (w.setCell ⟨hb, i, none⟩ (.int .i64 v)) b most seed hb hc lv fv (hd.set i v) nx l fr many := by
  obtain ⟨h1, _⟩ := t.heads.stored i (.int .i64 v)
  refine ⟨?_, ?_, owns_set t.list t.hl i _, reads_set t.free t.hf i _, t.len, by simpa using t.pos, by simpa using t.big, t.low, t.bh, t.bl, t.hl, t.bf, t.hf, t.lf, t.seed0, t.seed1, fun g hg => by simpa [World.setCell] using t.fl g hg⟩
  · rw [List.length_set]; exact Blk.far t.box t.bh _
  · rw [List.length_set, show i64s (hd.set i v) = (i64s hd).set i (.int .i64 v) from List.map_set ..]; exact h1
theorem Tb.setMany (t : Tb w b most seed hb hc lv fv hd nx l fr many) (v : Int) : Tb (w.setCell ⟨b, 5, none⟩ (.int .i64 v)) b most seed hb hc lv fv hd nx l fr v := by
  refine ⟨?_, owns_set t.heads (fun e => t.bh (by simp [Value.ownBlock] at e; exact e.symm)) 5 _, owns_set t.list t.bl 5 _, reads_set t.free t.bf 5 _, t.len, t.pos, t.big, t.low, t.bh, t.bl, t.hl, t.bf, t.hf, t.lf, t.seed0, t.seed1, fun g hg => by simpa [World.setCell] using t.fl g hg⟩
  exact Blk.set_ t.box 5 _
theorem Tb.setFree (t : Tb w b most seed hb hc lv fv hd nx l fr many) (v : Value) (fr' : List Int) (hr : Reads w v (i64s fr')) (h1 : v.ownBlock ≠ some b) (h2 : v.ownBlock ≠ some hb) (h3 : ∀ g, lv.ownBlock = some g → v.ownBlock ≠ some g) (h4 : ∀ g, v.ownBlock = some g → g < w.heap.size) :
    Tb (w.setCell ⟨b, 4, none⟩ v) b most seed hb hc lv v hd nx l fr' many := by
  refine ⟨?_, owns_set t.heads (fun e => t.bh (by simp [Value.ownBlock] at e; exact e.symm)) 4 _, owns_set t.list t.bl 4 _, reads_set hr h1 4 _, t.len, t.pos, t.big, t.low, t.bh, t.bl, t.hl, h1, h2, h3, t.seed0, t.seed1, fun g hg => by simpa [World.setCell] using h4 g hg⟩
  exact Blk.set_ t.box 4 _
theorem Tb.setNext (t : Tb w b most seed hb hc (.slice (some ⟨g, 0, none⟩) l.length cap) fv hd nx l fr many) {n : Nat} (hn : n < l.length) (v : Int) :
    Tb (w.setCell ⟨g, n * 3 + 2, none⟩ (.int .i64 v)) b most seed hb hc (.slice (some ⟨g, 0, none⟩) l.length cap) fv hd (nx.set n v) l fr many := by
  obtain ⟨h1, _⟩ := t.list.stored (n * 3 + 2) (.int .i64 v)
  have hgb : g ≠ b := fun e => t.bl (by rw [e]; rfl)
  have hgh : g ≠ hb := fun e => t.hl (by rw [e]; rfl)
  refine ⟨Blk.far t.box (fun e => hgb e.symm) _, owns_set t.heads (fun e => hgh (by simp [Value.ownBlock] at e; exact e.symm)) _ _, ?_, reads_set t.free (t.lf g rfl) _ _, by rw [List.length_set]; exact t.len, t.pos, t.big, t.low, t.bh, t.bl, t.hl, t.bf, t.hf, t.lf, t.seed0, t.seed1, fun g hg => by simpa [World.setCell] using t.fl g hg⟩
  rw [← nmCells_next v t.len hn]
  exact h1
theorem Tb.setRefs (t : Tb w b most seed hb hc (.slice (some ⟨g, 0, none⟩) l.length cap) fv hd nx l fr many) {n : Nat} (hn : n < l.length) (v : Int) :
    Tb (w.setCell ⟨g, n * 3 + 1, none⟩ (.int .i64 v)) b most seed hb hc (.slice (some ⟨g, 0, none⟩) (l.set n ((nmAt l n).1, v)).length cap) fv hd nx (l.set n ((nmAt l n).1, v)) fr many := by
  obtain ⟨h1, _⟩ := t.list.stored (n * 3 + 1) (.int .i64 v)
  have hgb : g ≠ b := fun e => t.bl (by rw [e]; rfl)
  have hgh : g ≠ hb := fun e => t.hl (by rw [e]; rfl)
  rw [List.length_set]
  refine ⟨Blk.far t.box (fun e => hgb e.symm) _, owns_set t.heads (fun e => hgh (by simp [Value.ownBlock] at e; exact e.symm)) _ _, ?_, reads_set t.free (t.lf g rfl) _ _, by rw [List.length_set]; exact t.len, t.pos, t.big, by rw [List.length_set]; exact t.low, t.bh, t.bl, t.hl, t.bf, t.hf, t.lf, t.seed0, t.seed1, fun g hg => by simpa [World.setCell] using t.fl g hg⟩
  rw [List.length_set, ← nmCells_refs v t.len hn]
  exact h1
/-- A name is written whole. -/
theorem Tb.setName (t : Tb w b most seed hb hc (.slice (some ⟨g, 0, none⟩) l.length cap) fv hd nx l fr many) {n : Nat} (hn : n < l.length) (s : List UInt8) (r v : Int) :
    Tb (((w.setCell ⟨g, n * 3, none⟩ (.string ⟨s.toArray⟩)).setCell ⟨g, n * 3 + 1, none⟩ (.int .i64 r)).setCell ⟨g, n * 3 + 2, none⟩ (.int .i64 v)) b most seed hb hc (.slice (some ⟨g, 0, none⟩) (l.set n (s, r)).length cap) fv hd (nx.set n v) (l.set n (s, r)) fr many := by
  obtain ⟨h1, _⟩ := t.list.stored (n * 3) (.string ⟨s.toArray⟩)
  obtain ⟨h2, _⟩ := h1.stored (n * 3 + 1) (.int .i64 r)
  obtain ⟨h3, _⟩ := h2.stored (n * 3 + 2) (.int .i64 v)
  have hgb : g ≠ b := fun e => t.bl (by rw [e]; rfl)
  have hgh : g ≠ hb := fun e => t.hl (by rw [e]; rfl)
  have hne : ∀ (o1 o2 o3 : Nat) (u1 u2 u3 : Value), Only (fun k => k = g) w (((w.setCell ⟨g, o1, none⟩ u1).setCell ⟨g, o2, none⟩ u2).setCell ⟨g, o3, none⟩ u3) := fun o1 o2 o3 u1 u2 u3 =>
    (((Only.refl (fun k => k = g) w).setCell1 (g := g) (.inl rfl) o1 u1).setCell1 (g := g) (.inl rfl) o2 u2).setCell1 (g := g) (.inl rfl) o3 u3
  rw [List.length_set]
  refine ⟨t.box.only (hne _ _ _ _ _ _) (fun e => hgb e.symm), ownsRow_only t.heads (hne _ _ _ _ _ _) (fun k hk e => hgh (by simp [Value.ownBlock] at hk; rw [← e, hk])), ?_, t.free.only_ (hne _ _ _ _ _ _) (fun k hk e => t.lf g rfl (by rw [hk, e])), by rw [List.length_set, List.length_set]; exact t.len, t.pos, t.big, by rw [List.length_set]; exact t.low, t.bh, t.bl, t.hl, t.bf, t.hf, t.lf, t.seed0, t.seed1, fun g hg => by simpa [World.setCell] using t.fl g hg⟩
  rw [List.length_set, ← nmCells_set s r v t.len hn]
  exact h3
end
end Go.Proofs.YtfpkeinknhijaaaGreat
/- Growing: twice as many heads. -/
namespace Go.Proofs.YtfpkeinknhijaaaGreat
set_option linter.unusedVariables false
open Go.RowKit Go.Maps Go.Sort

theorem Chains.skip {hs : List UInt8 → Nat} {hd nx : List Int} {l : Nms} {ch : Nat → List Nat} {k : Nat} (h : Chains hs hd nx l ch (fun m => m < k)) (hk : liveB l k = false) : Chains hs hd nx l ch (fun m => m < k + 1) :=
  h.congr (fun n hn => ⟨fun h => by omega, fun h => by
    rcases Nat.lt_or_ge n k with h1 | h1
    · exact h1
    · obtain rfl : n = k := by omega
      rw [hk] at hn; cases hn⟩)
theorem Chains.next {hs : List UInt8 → Nat} {hd nx : List Int} {l : Nms} {ch : Nat → List Nat} {k : Nat} (h : Chains hs hd nx l ch (fun m => m < k)) (hk : liveB l k = true) {i : Nat} (hi : hs (nmAt l k).1 % hd.length = i) :
    Chains hs (hd.set i k) (nx.set k (hd.getD i 0)) l (fun j => if j = i then k :: ch i else ch j) (fun m => m < k + 1) :=
  (h.push hk (Nat.lt_irrefl k) hi).congr (fun n _ => ⟨fun h => by omega, fun h => by omega⟩)

section
variable {w : World} {b : Nat} {most seed : Int} {hb hc : Nat} {lv fv : Value} {hd nx : List Int} {l : Nms} {fr : List Int} {many : Int}
theorem Tb.thaw (t : Tb w b most seed hb hc lv fv hd nx l fr many) (o : Nat) : w.frozen? ⟨b, o, none⟩ = false ∧ w.frozen? ⟨hb, o, none⟩ = false := ⟨Blk.frozen t.box o, t.heads.frozenAt o⟩
theorem Tb.thawl {g cap : Nat} (t : Tb w b most seed hb hc (.slice (some ⟨g, 0, none⟩) l.length cap) fv hd nx l fr many) (o : Nat) : w.frozen? ⟨g, o, none⟩ = false := t.list.frozenAt o
/-- New heads. -/
theorem Tb.newHeads (t : Tb w b most seed hb hc lv fv hd nx l fr many) {w' : World} (hb' N : Nat) (hB : Below w.heap.size w w') (hge : w.heap.size ≤ hb') (hN : 0 < N) (hN2 : N ≤ 1000000) (hg : w'.heap[hb']? = some (.cells ((List.replicate N (-1)).map (Value.int .i64)).toArray 3 (0, 0))) :
    Tb (w'.setCell ⟨b, 2, none⟩ (.slice (some ⟨hb', 0, none⟩) N N)) b most seed hb' N lv fv (List.replicate N (-1)) nx l fr many := by
  have t' := t.below hB
  have hbl : b < w.heap.size := t.box.lt
  have hb1 : b ≠ hb' := by omega
  have hl1 : lv.ownBlock ≠ some hb' := fun e => by have := ownsRow_lt t.list e; omega
  have hf1 : fv.ownBlock ≠ some hb' := fun e => by have := t.fl _ e; omega
  have hm : N ≤ maxLen := by unfold maxLen; omega
  have hown : w'.ownsRow 0 3 1 (.slice (some ⟨hb', 0, none⟩) N N) N (i64s (List.replicate N (-1))) := by
    refine ⟨by simp, .inr ⟨hb', N, _, rfl, Nat.zero_le _, hg, Nat.le_refl _, hm, by simp, ?_⟩⟩
    simp
  have hbox := Blk.set_ t'.box 2 (.slice (some ⟨hb', 0, none⟩) N N)
  have hlen : (List.replicate N (-1 : Int)).length = N := by simp
  refine ⟨?_, ?_, owns_set t'.list t'.bl 2 _, reads_set t'.free t'.bf 2 _, t'.len, by rw [hlen]; exact hN, by rw [hlen]; exact hN2, t'.low, hb1, t'.bl, hl1, t'.bf, hf1, t'.lf, t'.seed0, t'.seed1, fun g hg => by simpa [World.setCell] using t'.fl g hg⟩
  · rw [hlen]; exact hbox
  · rw [hlen]; exact owns_set hown (fun e => hb1 (by simp [Value.ownBlock] at e; exact e.symm)) 2 _
end
set_option maxHeartbeats 4000000 in
set_option maxRecDepth 100000 in
theorem grow_any {w : World} {b : Nat} {most seed : Int} {hb hc g cap : Nat} {fv : Value} {hd nx : List Int} {l : Nms} {fr : List Int} {many : Int} (t : Tb w b most seed hb hc (.slice (some ⟨g, 0, none⟩) l.length cap) fv hd nx l fr many)
    (hH : hd.length ≤ 200000) (htx : ∀ n, liveB l n = true → (nmAt l n).1.length ≤ 64) :
    Calls Tryz.prog 79 #[.pointer (some ⟨b, 0, none⟩)] w fun e w' => e = .returned (.tuple #[]) ∧ ∃ hb' hc' hd' nx' ch', Tb w' b most seed hb' hc' (.slice (some ⟨g, 0, none⟩) l.length cap) fv hd' nx' l fr many ∧ Chains (hsN seed) hd' nx' l ch' (fun _ => True) ∧ hd'.length = 2 * hd.length ∧ w.heap.size ≤ hb' ∧ Only (inO b hb (.slice (some ⟨g, 0, none⟩) l.length cap) fv) w w' := by
  obtain ⟨c0, c1, c2, c3, c4, c5⟩ := t.cells
  have T := Lib.hid t
  have HTX := Lib.hid htx
  obtain ⟨H, hHd⟩ : ∃ H, hd.length = H := ⟨_, rfl⟩
  have hpos : 0 < H := hHd ▸ t.pos
  rw [hHd] at c2 hH
  have HHD := Lib.hid hHd
  have hbl : b < w.heap.size := t.box.lt
  have hfz := (t.thaw 2).1
  clear t htx hHd
  go_enter Tryz.func79, Tryz.ntmps79
  go_wp2_with fail
  have hB0 : Below w.heap.size w (w.alloc (.cells #[.int .i64 (-1)] 3)) := (Below.refl _ _).alloc (Nat.le_refl _) _
  rw [show (2 * (H : Int)) = ((2 * H : Nat) : Int) by omega]
  refine (repeat_any w.heap.size 1 (-1) (2 * H) (by omega) (by omega) _ (by simp) (by simp)).mono ?_
  rintro e w1 ⟨rfl, hg1, b1⟩
  have hB1 : Below w.heap.size w w1 := hB0.trans (b1.mono (by simp))
  have hs0 : (w.alloc (.cells #[.int .i64 (-1)] 3)).heap.size = w.heap.size + 1 := by simp
  rw [hs0] at hg1 b1 ⊢
  have hfz1 : w1.frozen? ⟨b, 2, none⟩ = false := (hB1.frozen (p := ⟨b, 2, none⟩) hbl).trans hfz
  have t2 := T.out.newHeads (w.heap.size + 1) (2 * H) hB1 (by omega) (by omega) (by omega) hg1
  have T2 := Lib.hid t2
  obtain ⟨hb', hhb⟩ : ∃ hb', w.heap.size + 1 = hb' := ⟨_, rfl⟩
  have hge : w.heap.size ≤ hb' := by omega
  have HCH := Lib.hid (Chains.fresh (hsN seed) (H := 2 * H) (by omega) T.out.len)
  have O2 : Hid (Only (inO b hb (.slice (some ⟨g, 0, none⟩) l.length cap) fv) w (w1.setCell ⟨b, 2, none⟩ (.slice (some ⟨hb', 0, none⟩) (2 * H) (2 * H)))) := (Only.of_below hB1 _).setCell1 (.inl (.inl rfl)) _ _
  rw [hhb] at T2
  simp only [hhb]
  obtain ⟨k0, k1, k2, k3, k4, k5⟩ := (T.out.below hB1).cells
  clear hB0 hs0 hg1 b1 hB1 hfz t2 hhb c0 c1 c2 c3 c4 c5 k0 k1 k4 k5
  go_wp2_with fail
  clear k2 k3 hfz1
  generalize w1.setCell ⟨b, 2, none⟩ (.slice (some ⟨hb', 0, none⟩) (2 * H) (2 * H)) = W1 at *
  have hlow := T.out.low
  have hgl := T.out.list.form
  have hL := T.out.list
  go_loopg [21] l.length (fun r i wr => ∃ (k : Nat) (hd2 nx2 : List Int) (ch2 : Nat → List Nat), k ≤ l.length ∧ r + k = l.length ∧ i = .int .i64 k ∧ hd2.length = 2 * H ∧ Tb wr b most seed hb' (2 * H) (.slice (some ⟨g, 0, none⟩) l.length cap) fv hd2 nx2 l fr many ∧ Chains (hsN seed) hd2 nx2 l ch2 (fun m => m < k) ∧ Only (inO b hb (.slice (some ⟨g, 0, none⟩) l.length cap) fv) w wr)
  case atStart => exact ⟨0, _, nx, _, by omega, by omega, rfl, by simp, T2.out, HCH.out.congr (fun n _ => ⟨fun h => h.elim, fun h => absurd h (Nat.not_lt_zero _)⟩), O2.out⟩
  case round =>
    clear T2 HCH O2 hgl hL
    obtain ⟨k, hd2, nx2, ch2, hk, hr, rfl, hlen, t3, hch, hO⟩ := hrel
    have HR : Hid (gk + k = l.length) := hr
    have HLEN := Lib.hid hlen
    have T3 := Lib.hid t3
    have HCH := Lib.hid hch
    have HO := Lib.hid hO
    clear hr hlen hch hO
    by_cases hlt : k < l.length
    · obtain ⟨c0, c1, c2, c3, c4, c5⟩ := t3.cells
      obtain ⟨n0, n1, n2⟩ := t3.names hlt
      clear t3
      rcases Bool.eq_false_or_eq_true (liveB l k) with hv | hv
      · have hpos2 : 0 < (nmAt l k).2 := by unfold liveB at hv; simpa using hv
        have hsz := HTX.out k hv
        have HV := Lib.hid hv
        have HH := Lib.hid (head_any T3.out ⟨(nmAt l k).1.toArray⟩ (by show (nmAt l k).1.toArray.size ≤ _; simp; omega))
        have hi := hs_lt T3.out.pos seed (nmAt l k).1
        obtain ⟨i, hie⟩ : ∃ i, hsN seed (nmAt l k).1 % hd2.length = i := ⟨_, rfl⟩
        have HI := Lib.hid hie
        simp only [hie] at HH hi
        generalize (⟨(nmAt l k).1.toArray⟩ : ByteArray) = S at *
        clear hv hie hsz c0 c1 c2 c4 c5
        go_wp2_with fail
        refine HH.out.mono ?_
        rintro e w5 ⟨rfl, b5⟩
        have T5 := Lib.hid (T3.out.below b5)
        have O5 := Lib.hid (HO.out.trans (Only.of_below b5 (fun _ => False)) (fun _ h => h.elim))
        obtain ⟨m0, m1, m2⟩ := T5.out.names hlt
        have hhd := T5.out.head hi
        have hfz := T5.out.thawl (k * 3 + 2)
        have hfz2 := (T5.out.thaw i).2
        have hgh : g ≠ hb' := fun e => T5.out.hl (by rw [e]; rfl)
        have T6 := Lib.hid ((T5.out.setNext hlt (hd2.getD i 0)).setHead i k)
        have HC2 := Lib.hid (HCH.out.next HV.out HI.out)
        have O6 := Lib.hid ((O5.out.setCell1 (g := g) (.inl (.inr (.inr (.inl rfl)))) (k * 3 + 2) (.int .i64 (hd2.getD i 0))).setCell1 (g := hb') (.inr hge) i (.int .i64 (k : Int)))
        generalize hd2.getD i 0 = X at *
        clear HH n0 n1 n2 c3 T3 T5 HO O5 b5 HV HCH HI m0 m1
        go_wp2_with fail
        go_roundg (gk - 1)
        case measure => have := HR.out; omega
        case rel => exact ⟨k + 1, _, _, _, by omega, by have := HR.out; omega, by go_num, by rw [List.length_set]; exact HLEN.out, T6.out, HC2.out, O6.out⟩
      · have hn2 : ¬ 0 < (nmAt l k).2 := by unfold liveB at hv; simpa using hv
        have HC2 := Lib.hid (HCH.out.skip hv)
        clear hv c0 c1 c2 c4 c5 n0 n2
        go_wp2_with fail
        go_roundg (gk - 1)
        case measure => have := HR.out; omega
        case rel => exact ⟨k + 1, hd2, nx2, ch2, by omega, by have := HR.out; omega, by go_num, HLEN.out, T3.out, HC2.out, HO.out⟩
    · obtain rfl : k = l.length := by omega
      have HC2 : Hid (Chains (hsN seed) hd2 nx2 l ch2 (fun _ => True)) := HCH.out.congr (fun n hn => ⟨fun _ => trivial, fun _ => live_lt hn⟩)
      clear HCH t3
      go_wp2_with fail
      refine bodyPost_end (results_none Tryz.results79 _ _ _) rfl ?_
      exact ⟨rfl, hb', 2 * H, hd2, nx2, ch2, T3.out, HC2.out, by rw [HLEN.out, HHD.out], hge, HO.out⟩
end Go.Proofs.YtfpkeinknhijaaaGreat
/- Add. -/
namespace Go.Proofs.YtfpkeinknhijaaaGreat
set_option linter.unusedVariables false
open Go.RowKit Go.Maps Go.Sort

theorem info_name : (Tryz.prog.info? 123).map (fun i => (i.zero, i.size, i.bytes)) = some (some (.agg #[.string ⟨#[]⟩, .int .i64 0, .int .i64 0]), 3, 32) := by kernel_rfl
/-- What Add leaves. -/
def AddP (w : World) (b : Nat) (O : Nat → Prop) (most seed : Int) (r : Nms × Int × Int) (e : Ending) (w' : World) : Prop :=
  ∃ O', e = .returned (.tuple #[.int .i64 r.2.1, .int .i64 r.2.2]) ∧ Tab w' b O' most seed r.1 ∧ Only O w w' ∧ (∀ g, O' g → O g ∨ w.heap.size ≤ g)
theorem AddP.same {w w' : World} {b : Nat} {O : Nat → Prop} {most seed n e : Int} {l : Nms} (t : Tab w' b O most seed l) (ho : Only O w w') : AddP w b O most seed (l, n, e) (.returned (.tuple #[.int .i64 n, .int .i64 e])) w' :=
  ⟨O, rfl, t, ho, fun _ h => .inl h⟩
section
variable {w : World} {b : Nat} {O : Nat → Prop} {most seed R : Int} {l : Nms} (t : Tab w b O most seed l) (hm : 1 ≤ most) (hw : Wf most R l)
include t hm
theorem add_bad (s : ByteArray) (hv : validB s.data.toList = false) :
    Calls Tryz.prog 64 #[.pointer (some ⟨b, 0, none⟩), .string s] w (AddP w b O most seed (addM most l s.data.toList)) := by
  have HN := Lib.hid (none_no t.box hm)
  have HV := Lib.hid (fun w => valid_no s hv w)
  have hM : addM most l s.data.toList = (l, 0, 2) := by unfold addM; rw [if_neg (by rw [hv]; decide)]
  rw [hM]
  have T := Lib.hid t
  clear hv t hM
  go_enter Tryz.func64, Tryz.ntmps64
  go_wp2_with (first
    | (go_at_call 72; refine HN.out.mono ?_; rintro e w1 ⟨rfl, rfl⟩)
    | (go_at_call 77; refine (HV.out _).mono ?_; rintro e w1 ⟨rfl, rfl⟩))
  go_ret2
  exact AddP.same T.out (Only.refl _ _)
include hw
set_option maxHeartbeats 1000000 in
theorem add_there (hR : R < 2147483647) (s : ByteArray) (hs : s.size ≤ 140737488355328) (hv : validB s.data.toList = true) (n : Nat) (hf : findN l s.data.toList = some n) :
    Calls Tryz.prog 64 #[.pointer (some ⟨b, 0, none⟩), .string s] w (AddP w b O most seed (addM most l s.data.toList)) := by
  have HN := Lib.hid (none_no t.box hm)
  have HV := Lib.hid (fun w => valid_yes s hv w)
  have hM : addM most l s.data.toList = (l.set n (s.data.toList, (nmAt l n).2 + 1), (n : Int), 0) := by unfold addM; rw [if_pos hv, hf]
  rw [hM]
  obtain ⟨hlive, htext⟩ := findN_some hf
  have hn := live_lt hlive
  have hr := hw.refs n
  have hpos : 0 < (nmAt l n).2 := by unfold liveB at hlive; simpa using hlive
  have hlow := t.low
  obtain ⟨hb, hc, lv, fv, hd, nx, ch, t1, t2, t3, t4⟩ := t
  obtain ⟨g, cap, rfl, hg, _, _⟩ := t1.lform (by omega)
  have HF := find_any t1 t2 hw.dist s hs
  rw [hf] at HF
  have HF : Hid (Calls _ _ _ _ fun e w' => e = .returned (.int .i64 (n : Int)) ∧ _) := HF
  have hfree : freeL (l.set n (s.data.toList, (nmAt l n).2 + 1)) = freeL l := by
    have hx : liveX (s.data.toList, (nmAt l n).2 + 1) = true := by unfold liveX; simp; omega
    rw [freeL_live hn hlive, freeL_live (l := l.set n _) (n := n) (by rw [List.length_set]; exact hn) (by rw [liveB_set hn, if_pos rfl]; exact hx), freeBelow_set _ hn, freeAbove_set _ hn]
  have hmany : liveN (l.set n (s.data.toList, (nmAt l n).2 + 1)) = liveN l := by
    have hx : liveX (s.data.toList, (nmAt l n).2 + 1) = true := by unfold liveX; simp; omega
    have := liveN_set hn (s.data.toList, (nmAt l n).2 + 1)
    rw [if_pos hlive, if_pos hx] at this
    omega
  have hch : Chains (hsN seed) hd nx (l.set n (s.data.toList, (nmAt l n).2 + 1)) ch (fun _ => True) := t2.same (by rw [List.length_set]) (fun m => by
      rw [liveB_set hn]
      split
      · rename_i e; subst e; rw [hlive]; unfold liveX; simp; omega
      · rfl) (fun m _ => by
      rw [nmAt_set hn]
      split
      · rename_i e; subst e; exact htext.symm
      · rfl)
  have HE : Hid (∀ w', Only (inO b hb (.slice (some ⟨g, 0, none⟩) l.length cap) fv) w w' → Tb w' b most seed hb hc (.slice (some ⟨g, 0, none⟩) (l.set n ((nmAt l n).1, (nmAt l n).2 + 1)).length cap) fv hd nx (l.set n ((nmAt l n).1, (nmAt l n).2 + 1)) (freeI l) (liveN l) → AddP w b O most seed (l.set n (s.data.toList, (nmAt l n).2 + 1), (n : Int), 0) (.returned (.tuple #[.int .i64 n, .int .i64 0])) w') := by
    intro w' ho ht
    rw [htext, List.length_set] at ht
    refine ⟨O, rfl, ⟨hb, hc, .slice (some ⟨g, 0, none⟩) l.length cap, fv, hd, nx, ch, ?_, hch, t3, t4⟩, ho.more (fun k hk => .inl ((t3 k).2 hk)), fun _ h => .inl h⟩
    unfold freeI
    rw [hfree, hmany]
    exact ht
  have T1 := Lib.hid t1
  have hrl : (nmAt l n).2 < 2147483647 := by omega
  clear hv t1 t2 t3 hM hw hf hlive htext hfree hmany hch hr
  obtain ⟨r, hre⟩ : ∃ r, (nmAt l n).2 = r := ⟨_, rfl⟩
  rw [hre] at HE hpos hrl ⊢
  have HRE := Lib.hid hre
  clear hre
  have hne : (r == 2147483647) = false := by rw [beq_eq_false_iff_ne]; omega
  go_enter Tryz.func64, Tryz.ntmps64
  go_wp2_with fail
  refine HN.out.mono ?_
  rintro e w1 ⟨rfl, rfl⟩
  go_wp2_with fail
  refine (HV.out _).mono ?_
  rintro e w1 ⟨rfl, rfl⟩
  go_wp2_with fail
  refine HF.out.mono ?_
  rintro e w1 ⟨rfl, b1⟩
  have T2 := Lib.hid (T1.out.below b1)
  obtain ⟨c0, c1, c2, c3, c4, c5⟩ := T2.out.cells
  obtain ⟨n0, n1, n2⟩ := T2.out.names hn
  rw [HRE.out] at n1
  have hfz := T2.out.thawl (n * 3 + 1)
  have O1 := Lib.hid ((Only.of_below b1 (inO b hb (.slice (some ⟨g, 0, none⟩) l.length cap) fv)).setCell1 (g := g) (.inl (.inr (.inr (.inl rfl)))) (n * 3 + 1) (.int .i64 (r + 1)))
  have T3 := Lib.hid (T2.out.setRefs hn (r + 1))
  clear HF HN HV T1 T2 b1 c0 c1 c2 c4 c5 n0 n2
  go_wp2_with fail
  go_ret2
  exact HE.out _ O1.out T3.out
end
end Go.Proofs.YtfpkeinknhijaaaGreat
/- Add of a new name. -/
namespace Go.Proofs.YtfpkeinknhijaaaGreat
set_option linter.unusedVariables false
open Go.RowKit Go.Maps Go.Sort

/-- A list that has grown by one. -/
theorem Tb.grownList {w w2 : World} {b : Nat} {most seed : Int} {hb hc : Nat} {lv fv v' : Value} {hd nx : List Int} {l : Nms} {fr : List Int} {many : Int} (t : Tb w b most seed hb hc lv fv hd nx l fr many)
    (hlen : l.length + 1 ≤ 100000) (o : Obj) (hg : (w.alloc o).grownBy w2 lv.ownBlock) (hown : w2.ownsRow 0 123 3 v' (l.length + 1) (nmCells l nx ++ [.string ⟨#[]⟩, .int .i64 0, .int .i64 0]))
    (hat : v'.ownBlock = lv.ownBlock ∨ v'.ownBlock = some (w.heap.size + 1)) :
    Tb (w2.setCell ⟨b, 3, none⟩ v') b most seed hb hc v' fv hd (nx ++ [0]) (l ++ [([], 0)]) fr many ∧ Only (inO b hb lv fv) w (w2.setCell ⟨b, 3, none⟩ v') ∧ (∀ k, inO b hb v' fv k → inO b hb lv fv k ∨ w.heap.size ≤ k) := by
  have hbl : b < w.heap.size := t.box.lt
  have hhl : hb < w.heap.size := ownsRow_lt t.heads rfl
  have hO : Only (fun g => lv.ownBlock = some g) w w2 := ((Only.refl (fun g => lv.ownBlock = some g) w).alloc o).trans (S' := fun g => lv.ownBlock = some g) ⟨hg.os, hg.tape, hg.output, hg.size, fun k hk hn => hg.block k hk (fun e => hn e.symm)⟩ (fun g h => .inl h)
  have hbox := t.box.only hO (fun e => t.bl e)
  have hheads := ownsRow_only t.heads hO (fun g hg e => t.hl (by simp [Value.ownBlock] at hg; rw [hg]; exact e))
  have hfree := t.free.only_ hO (fun g hg e => t.lf g e hg)
  have hb1 : v'.ownBlock ≠ some b := fun e => by
    rcases hat with h | h
    · exact t.bl (h.symm.trans e)
    · rw [h] at e; injection e with e; omega
  have hb2 : v'.ownBlock ≠ some hb := fun e => by
    rcases hat with h | h
    · exact t.hl (h.symm.trans e)
    · rw [h] at e; injection e with e; omega
  have hlf : ∀ g, v'.ownBlock = some g → fv.ownBlock ≠ some g := fun g e e2 => by
    rcases hat with h | h
    · exact t.lf g (h.symm.trans e) e2
    · rw [h] at e; injection e with e; have := t.fl g e2; omega
  have hcells : nmCells l nx ++ [.string ⟨#[]⟩, .int .i64 0, .int .i64 0] = nmCells (l ++ [([], 0)]) (nx ++ [0]) := (nmCells_snoc ([], 0) 0 t.len).symm
  rw [hcells] at hown
  have hll : (l ++ [(([] : List UInt8), (0 : Int))]).length = l.length + 1 := by simp
  refine ⟨⟨Blk.set_ hbox 3 _, owns_set hheads (fun e => t.bh (by simp [Value.ownBlock] at e; exact e.symm)) 3 _, ?_, reads_set hfree t.bf 3 _, by simp [t.len], t.pos, t.big, by rw [hll]; exact hlen, t.bh, hb1, hb2, t.bf, t.hf, hlf, t.seed0, t.seed1, fun g hg => ?_⟩, ?_, fun k hk => ?_⟩
  · rw [hll]; exact owns_set hown hb1 3 _
  · have := t.fl g hg
    have h2 := hO.size
    simp [World.setCell]
    omega
  · exact (hO.more (fun g h => .inl (.inr (.inr (.inl h))))).setCell1 (.inl (.inl rfl)) _ _
  · rcases hk with h | h | h | h
    · exact .inl (.inl h)
    · exact .inl (.inr (.inl h))
    · rcases hat with h2 | h2
      · exact .inl (.inr (.inr (.inl (h2.symm.trans h))))
      · rw [h2] at h; injection h with h; exact .inr (by omega)
    · exact .inl (.inr (.inr (.inr h)))

theorem cell_three_new (w : World) (x y z : Value) (t : TypeId) : ∀ (j : Nat) (u : Value), [x, y, z][j]? = some u → (w.alloc (.cells #[x, y, z] t)).cell? ((⟨w.heap.size, 0, none⟩ : Addr).add j) = some u := by
  intro j u hj
  rw [addr_add0, Blk.cell (Blk.new w t #[x, y, z]) j]
  rw [← hj]
  simp
theorem one_three (s : ByteArray) : ∀ u ∈ [Value.string s, Value.int .i64 0, Value.int .i64 0], u.oneCell' = true := by
  intro u hu
  simp at hu
  rcases hu with rfl | rfl <;> rfl
theorem bytes_back (s : ByteArray) : (⟨s.data.toList.toArray⟩ : ByteArray) = s := by
  cases s
  simp
/-- Once a number has been chosen for a new name. -/
def AddMid (w : World) (b : Nat) (most seed : Int) (hb hc : Nat) (lv fv : Value) (hd nx : List Int) (l : Nms) (s : List UInt8) (wx : World) : Prop :=
  ∃ g cap fv1 l1 nx1, Tb wx b most seed hb hc (.slice (some ⟨g, 0, none⟩) l1.length cap) fv1 hd nx1 l1 (freeI (putL l (lowest l) (s, 1))) (liveN l) ∧ lowest l < l1.length ∧ l1.set (lowest l) (s, 1) = putL l (lowest l) (s, 1) ∧ nx1.set (lowest l) (-1) = putL nx (lowest l) (-1) ∧
    Only (inO b hb lv fv) w wx ∧ (∀ k, inO b hb (.slice (some ⟨g, 0, none⟩) l1.length cap) fv1 k → inO b hb lv fv k ∨ w.heap.size ≤ k)

section
variable {w : World} {b : Nat} {O : Nat → Prop} {most seed R : Int} {l : Nms} (t : Tab w b O most seed l) (hm : 1 ≤ most) (hm2 : most ≤ 65536) (hw : Wf most R l)
include t hm hm2 hw
omit hm2 in
set_option maxHeartbeats 1000000 in
theorem add_full (s : ByteArray) (hs : s.size ≤ 140737488355328) (hv : validB s.data.toList = true) (hf : findN l s.data.toList = none) (hfull : most ≤ liveN l) :
    Calls Tryz.prog 64 #[.pointer (some ⟨b, 0, none⟩), .string s] w (AddP w b O most seed (addM most l s.data.toList)) := by
  have HN := Lib.hid (none_no t.box hm)
  have HV := Lib.hid (fun w => valid_yes s hv w)
  have hM : addM most l s.data.toList = (l, 0, 7) := by unfold addM; rw [if_pos hv, hf]; simp only; rw [if_pos hfull]
  rw [hM]
  have T := Lib.hid t
  have hle := liveN_le l
  have hsz := hw.size
  obtain ⟨hb, hc, lv, fv, hd, nx, ch, t1, t2, t3, t4⟩ := t
  have HF0 := find_any t1 t2 hw.dist s hs
  rw [hf] at HF0
  have HF : Hid (Calls _ _ _ _ fun e w' => e = .returned (.int .i64 (-1)) ∧ _) := HF0
  clear HF0
  have T1 := Lib.hid t1
  have heq : ((liveN l : Int) == most) = true := by rw [beq_iff_eq]; omega
  clear hv t1 t2 t3 t4 hM hw hf hfull hle hsz
  go_enter Tryz.func64, Tryz.ntmps64
  go_wp2_with fail
  refine HN.out.mono ?_
  rintro e w1 ⟨rfl, rfl⟩
  go_wp2_with fail
  refine (HV.out _).mono ?_
  rintro e w1 ⟨rfl, rfl⟩
  go_wp2_with fail
  refine HF.out.mono ?_
  rintro e w1 ⟨rfl, b1⟩
  obtain ⟨c0, c1, c2, c3, c4, c5⟩ := (T1.out.below b1).cells
  clear HF HN HV T1 c1 c2 c3 c4
  go_wp2_with fail
  go_quiet (fail)
  go_wp2_with fail
  go_ret2
  exact AddP.same (T.out.below (below_drewN b1 _)) (Only.of_below (below_drewN b1 _) _)
set_option maxHeartbeats 4000000 in
set_option maxRecDepth 100000 in
theorem add_new (s : ByteArray) (hs : s.size ≤ 140737488355328) (hv : validB s.data.toList = true) (hf : findN l s.data.toList = none) (hfull : ¬ most ≤ liveN l) :
    Calls Tryz.prog 64 #[.pointer (some ⟨b, 0, none⟩), .string s] w (AddP w b O most seed (addM most l s.data.toList)) := by
  have HN := Lib.hid (none_no t.box hm)
  have HV := Lib.hid (fun w => valid_yes s hv w)
  have hM : addM most l s.data.toList = (putL l (lowest l) (s.data.toList, 1), (lowest l : Int), 0) := by unfold addM; rw [if_pos hv, hf]; simp only; rw [if_neg hfull]
  rw [hM]
  have hsz := hw.size
  obtain ⟨hb, hc, lv, fv, hd, nx, ch, t1, t2, t3, t4⟩ := t
  have HF0 := find_any t1 t2 hw.dist s hs
  rw [hf] at HF0
  have HF : Hid (Calls _ _ _ _ fun e w' => e = .returned (.int .i64 (-1)) ∧ _) := HF0
  clear HF0
  have T1 := Lib.hid t1
  have T2 := Lib.hid t2
  have T3 := Lib.hid t3
  have HW := Lib.hid hw
  have HVV := Lib.hid hv
  have heq : ((liveN l : Int) == most) = false := by have := liveN_le l; rw [beq_eq_false_iff_ne]; omega
  clear hv t1 t2 t3 hM hw hf hfull
  go_enter Tryz.func64, Tryz.ntmps64
  go_wp2_with fail
  refine HN.out.mono ?_
  rintro e w1 ⟨rfl, rfl⟩
  go_wp2_with fail
  refine (HV.out _).mono ?_
  rintro e w1 ⟨rfl, rfl⟩
  go_wp2_with fail
  refine HF.out.mono ?_
  rintro e w1 ⟨rfl, b1⟩
  obtain ⟨c0, c1, c2, c3, c4, c5⟩ := (T1.out.below b1).cells
  clear HF HN HV c1 c2
  go_wp2_with fail
  go_quiet (fail)
  have b2 : Below w.heap.size w (w1.drewN nq) := below_drewN b1 nq
  clear c0 c3 c4 c5
  generalize w1.drewN nq = W1 at *
  have B2 := Lib.hid b2
  have TW := Lib.hid (T1.out.below b2)
  obtain ⟨c0, c1, c2, c3, c4, c5⟩ := TW.out.cells
  have hfz3 := (TW.out.thaw 3).1
  have hfz4 := (TW.out.thaw 4).1
  have HLE := Lib.hid (lowest_le l)
  clear b1 b2 c0 c1 c2 c5
  have hslices : (∃ p cap, lv = .slice p l.length cap) ∧ ∃ p cap, fv = .slice p (freeL l).length cap := by
    refine ⟨?_, ?_⟩
    · rcases T1.out.list.2 with ⟨e1, e2⟩ | ⟨g, cap, _, e1, _⟩
      · exact ⟨none, 0, by rw [e1, e2]⟩
      · exact ⟨_, _, e1⟩
    · obtain ⟨p, cap, e, _⟩ := T1.out.free
      rw [List.length_map, List.length_map] at e
      exact ⟨p, cap, e⟩
  obtain ⟨⟨lp, lcap, hlv⟩, ⟨fp, fcap, hfv⟩⟩ := hslices
  have HLV := Lib.hid hlv
  rw [hlv] at c3
  rw [hfv] at c4
  have hfl := freeL_len l
  have hlow := T1.out.low
  obtain ⟨F, hF⟩ : ∃ F, (freeL l).length = F := ⟨_, rfl⟩
  rw [hF] at c4 hfl hfv
  have HF := Lib.hid hF
  have HFV := Lib.hid hfv
  clear hlv hfv hF
  go_upto_if 61 with (fail)
  go_cut [7] (fun s7 wx => s7 = .int .i64 (lowest l) ∧ AddMid w b most seed hb hc lv fv hd nx l s.data.toList wx)
  case first =>
    rcases Nat.lt_or_ge (lowest l) l.length with hlt | hge
    · have htake := freeL_take hlt (s.data.toList, 1) rfl
      have hF1 : 0 < F := by have := HF.out; rw [htake] at this; simp at this; omega
      obtain ⟨blk, off, hfp, hblk, hFc, hcell⟩ : ∃ blk off, fp = some ⟨blk, off, none⟩ ∧ blk < W1.heap.size ∧ F ≤ fcap ∧ ∀ (i : Nat) (x : Int), (freeI l)[i]? = some x → W1.cell? ⟨blk, off + i, none⟩ = some (.int .i64 x) := by
        obtain ⟨p, cap, e, _, h0 | ⟨blk, off, rfl, h1, h2, h3⟩⟩ := TW.out.free
        · rw [List.length_map, List.length_map, HF.out] at h0; omega
        · rw [HFV.out] at e
          injection e with e1 e2 e3
          rw [List.length_map, List.length_map, HF.out] at h2
          refine ⟨blk, off, e1, h1, by rw [e3]; exact h2, fun i x hx => h3 i _ ?_⟩
          rw [List.getElem?_map, hx]; rfl
      subst hfp
      have hc0 : W1.cell? ⟨blk, off, none⟩ = some (.int .i64 (lowest l)) := hcell 0 _ (by unfold freeI; rw [htake]; rfl)
      have hfree2 : freeI l = (lowest l : Int) :: freeI (putL l (lowest l) (s.data.toList, 1)) := by
        unfold freeI putL
        rw [if_pos hlt, htake]
        rfl
      have hlen2 : (freeI (putL l (lowest l) (s.data.toList, 1))).length = F - 1 := by
        have : (freeI l).length = F := by rw [List.length_map, HF.out]
        rw [hfree2] at this
        simp at this
        simp
        omega
      obtain ⟨v', hv', hrd⟩ : ∃ v', v' = Value.slice (if fcap = 1 then some ⟨blk, off, none⟩ else some ⟨blk, off + 1, none⟩) (F - 1) (fcap - 1) ∧ Reads W1 v' (i64s (freeI (putL l (lowest l) (s.data.toList, 1)))) := by
        refine ⟨_, rfl, ?_⟩
        have hb := TW.out.free
        refine ⟨_, fcap - 1, by rw [List.length_map, hlen2], by rw [List.length_map, hlen2]; omega, ?_⟩
        rw [List.length_map, hlen2]
        by_cases h1 : fcap = 1
        · left; omega
        · right
          rw [if_neg h1]
          refine ⟨blk, off + 1, rfl, hblk, by omega, fun i x hx => ?_⟩
          rw [List.getElem?_map, Option.map_eq_some_iff] at hx
          obtain ⟨y, hy, rfl⟩ := hx
          have := hcell (i + 1) y (by rw [hfree2]; simpa using hy)
          rwa [show off + (i + 1) = off + 1 + i by omega] at this
      have hob : v'.ownBlock = fv.ownBlock := by
        rw [hv', HFV.out]
        by_cases h1 : fcap = 1 <;> simp [Value.ownBlock, h1]
      have HMid : Hid (∀ wx, Only (inO b hb lv fv) W1 wx → Tb wx b most seed hb hc lv v' hd nx l (freeI (putL l (lowest l) (s.data.toList, 1))) (liveN l) → AddMid w b most seed hb hc lv fv hd nx l s.data.toList wx) := by
        intro wx ho ht
        obtain ⟨g, cap, hlv2, _, _, _⟩ := ht.lform (by omega)
        subst hlv2
        refine ⟨g, cap, v', l, nx, ht, hlt, by unfold putL; rw [if_pos hlt], by unfold putL; rw [if_pos (by rw [T1.out.len]; exact hlt)], (Only.of_below B2.out _).trans ho (fun k h => .inl h), fun k hk => ?_⟩
        rcases hk with h | h | h | h
        · exact .inl (.inl h)
        · exact .inl (.inr (.inl h))
        · exact .inl (.inr (.inr (.inl h)))
        · rw [hob] at h; exact .inl (.inr (.inr (.inr h)))
      have T3 := Lib.hid (TW.out.setFree v' _ hrd (by rw [hob]; exact T1.out.bf) (by rw [hob]; exact T1.out.hf) (fun g hg => by rw [hob]; exact T1.out.lf g hg) (fun g hg => by rw [hob] at hg; exact TW.out.fl g hg))
      have O3 : Hid (Only (inO b hb lv fv) W1 (W1.setCell ⟨b, 4, none⟩ v')) := (Only.refl _ _).setCell1 (.inl (.inl rfl)) _ _
      have HV' := Lib.hid hv'
      clear htake hcell hfree2 hlen2 hrd hob hv'
      by_cases h1 : fcap = 1
      · have hv1 := HV'.out
        rw [if_pos h1] at hv1
        subst h1
        subst hv1
        obtain rfl : F = 1 := by omega
        clear HV'
        go_wp2_with fail
        go_region
        go_wp2_with fail
        go_meet
        exact ⟨rfl, HMid.out _ O3.out.drew T3.out.drew⟩
      · have hv1 := HV'.out
        rw [if_neg h1] at hv1
        subst hv1
        clear HV'
        go_wp2_with fail
        go_region
        go_wp2_with fail
        go_meet
        exact ⟨rfl, HMid.out _ O3.out.drew T3.out.drew⟩
    · have hL : lowest l = l.length := by have := HLE.out; omega
      have hfree0 : freeL l = [] := freeL_none hL
      have hput : putL l (lowest l) (s.data.toList, 1) = l ++ [(s.data.toList, 1)] := by unfold putL; rw [if_neg (by omega)]
      have hF0 : F = 0 := by rw [← HF.out, hfree0]; rfl
      have hfree2 : freeI (putL l (lowest l) (s.data.toList, 1)) = freeI l := by
        unfold freeI
        rw [hput, hfree0, freeL_snoc hL (s.data.toList, 1) rfl]
      have hlen1 : l.length + 1 ≤ 100000 := by have := liveN_le l; omega
      have HMid : Hid (∀ wx v', Only (inO b hb lv fv) W1 wx → (∃ g cap, v' = .slice (some ⟨g, 0, none⟩) (l.length + 1) cap) → Tb wx b most seed hb hc v' fv hd (nx ++ [0]) (l ++ [([], 0)]) (freeI l) (liveN l) → (∀ k, inO b hb v' fv k → inO b hb lv fv k ∨ W1.heap.size ≤ k) → AddMid w b most seed hb hc lv fv hd nx l s.data.toList wx) := by
        rintro wx _ ho ⟨g, cap, rfl⟩ ht hi
        have hll : (l ++ [(([] : List UInt8), (0 : Int))]).length = l.length + 1 := by simp
        refine ⟨g, cap, fv, l ++ [([], 0)], nx ++ [0], by rw [hll, hfree2]; exact ht, by rw [hll]; omega, ?_, ?_, (Only.of_below B2.out _).trans ho (fun k h => .inl h), fun k hk => ?_⟩
        · rw [hput, hL, List.set_append_right _ _ (Nat.le_refl _), Nat.sub_self]; rfl
        · unfold putL
          rw [if_neg (by rw [T1.out.len]; omega), hL, ← T1.out.len, List.set_append_right _ _ (Nat.le_refl _), Nat.sub_self]; rfl
        · rw [hll] at hk
          rcases hi k hk with h | h
          · exact .inl h
          · exact .inr (Nat.le_trans B2.out.size h)
      have HLL := Lib.hid hL
      obtain ⟨i0, hi, hz0, hz1, hz2⟩ := info_parts info_name
      subst hF0
      have HOL : Hid (W1.ownsRow 0 123 3 (.slice lp l.length lcap) l.length (nmCells l nx)) := HLV.out ▸ TW.out.list
      have HK3 : Hid (∀ w2, (W1.alloc (.cells #[.string ⟨#[]⟩, .int .i64 0, .int .i64 0] 123)).grownBy w2 (Value.slice lp l.length lcap).ownBlock → w2.cell? ⟨b, 3, none⟩ = some (.slice lp l.length lcap) ∧ w2.frozen? ⟨b, 3, none⟩ = false) := by
        intro w2 hg
        have hbl := TW.out.box.lt
        have hne : some b ≠ (Value.slice lp l.length lcap).ownBlock := fun e => TW.out.bl (by rw [HLV.out]; exact e.symm)
        have hbk := hg.block b (by simp; omega) hne
        have hb0 : (W1.alloc (.cells #[.string ⟨#[]⟩, .int .i64 0, .int .i64 0] 123)).heap[b]? = W1.heap[b]? := Below.heap_alloc _ _ _ hbl
        refine ⟨?_, ?_⟩
        · rw [World.cell?_of_block (w := W1) (a := ⟨b, 3, none⟩) (hbk.trans hb0)]; exact c3
        · rw [World.frozen?_of_block (w := W1) (a := ⟨b, 3, none⟩) (hbk.trans hb0)]; exact hfz3
      clear hfree0 hput hfree2 hge hL
      go_wp2_with (at_builtin; refine wpList_append_own_at _ rfl _ _ 98 rfl 0 123 i0 (.agg #[.string ⟨#[]⟩, .int .i64 0, .int .i64 0]) 3 32 Tryz.underlying98 hi hz0 hz1 hz2 rfl (by decide) (.slice lp l.length lcap) l.length (nmCells l nx) rfl (HOL.out.alloc _) ⟨W1.heap.size, 0, none⟩ 1 1 [.string ⟨#[]⟩, .int .i64 0, .int .i64 0] rfl rfl (cell_three_new _ _ _ _ _) (one_three _) (by unfold maxLen; omega) (by omega) (Nat.zero_le _) ?_; intro v2 w2 hown2 hg2 _ hat2; obtain ⟨g2, cap2, he2, _, _⟩ := hown2.form (by omega); rw [he2] at hown2 hat2 ⊢; obtain ⟨k3, hfz5⟩ := HK3.out w2 hg2)
      have hat3 : (Value.slice (some ⟨g2, 0, none⟩) (l.length + 1) cap2).ownBlock = lv.ownBlock ∨ (Value.slice (some ⟨g2, 0, none⟩) (l.length + 1) cap2).ownBlock = some (W1.heap.size + 1) := by
        rw [HLV.out]
        simpa using hat2
      obtain ⟨m1, m2, m3⟩ := TW.out.grownList hlen1 _ (by rw [HLV.out]; exact hg2) hown2 hat3
      have HFIN := Lib.hid (HMid.out _ _ m2 ⟨g2, cap2, rfl⟩ m1 m3)
      go_meet
      exact ⟨by rw [HLL.out], HFIN.out⟩
  case rest =>
    obtain ⟨hs7, g, cap, fv1, l1, nx1, ht, hlt1, hset, hsetn, ho, hin⟩ := hcut
    obtain ⟨n, hn⟩ : ∃ n, lowest l = n := ⟨_, rfl⟩
    rw [hn] at hs7 hlt1 hset hsetn ht
    have HNN := Lib.hid hn
    have HSET := Lib.hid hset
    have HSETN := Lib.hid hsetn
    have T5 := Lib.hid ht
    have HO5 := Lib.hid ho
    have HIN := Lib.hid hin
    subst hs7
    obtain ⟨c0, c1, c2, c3, c4, c5⟩ := T5.out.cells
    have hf0 := T5.out.thawl (n * 3)
    have hf1 := T5.out.thawl (n * 3 + 1)
    have hf2 := T5.out.thawl (n * 3 + 2)
    obtain ⟨n0, n1, n2⟩ := T5.out.names hlt1
    have hlow1 := T5.out.low
    have HLEN1 := Lib.hid hlt1
    clear hn hset hsetn ht ho hin TW hfz3 hfz4 HLV HFV HF hfl T1
    go_upto_region 18 with (fail)
    have t6 := T5.out.setName HLEN1.out s.data.toList 1 (-1)
    rw [HSET.out, HSETN.out, bytes_back s] at t6
    have o6 : Only (inO b hb lv fv) w (((wc.setCell ⟨g, n * 3, none⟩ (.string s)).setCell ⟨g, n * 3 + 1, none⟩ (.int .i64 1)).setCell ⟨g, n * 3 + 2, none⟩ (.int .i64 (-1))) := by
      have hg : inO b hb lv fv g ∨ w.heap.size ≤ g := HIN.out g (.inr (.inr (.inl rfl)))
      exact ((HO5.out.setCell1 hg _ _).setCell1 hg _ _).setCell1 hg _ _
    generalize ((wc.setCell ⟨g, n * 3, none⟩ (.string s)).setCell ⟨g, n * 3 + 1, none⟩ (.int .i64 1)).setCell ⟨g, n * 3 + 2, none⟩ (.int .i64 (-1)) = W6 at *
    have T6 := Lib.hid t6
    have O6 := Lib.hid o6
    clear t6 o6 T5 HO5 c0 c1 c2 c3 c4 c5 hf0 hf1 hf2 n0 n1 n2 HSET HSETN hlt1
    obtain ⟨c0, c1, c2, c3, c4, c5⟩ := T6.out.cells
    have hfz := (T6.out.thaw 5).1
    have T7 := Lib.hid (T6.out.setMany ((liveN l : Int) + 1))
    have O7 := Lib.hid (O6.out.setCell1 (g := b) (.inl (.inl rfl)) 5 (.int .i64 ((liveN l : Int) + 1)))
    have hlv1 := liveN_le l
    clear T6 O6
    go_wp2_with fail
    clear c0 c1 c2 c3 c4 c5 hfz
    generalize W6.setCell ⟨b, 5, none⟩ (.int .i64 ((liveN l : Int) + 1)) = W7 at *
    obtain ⟨c0, c1, c2, c3, c4, c5⟩ := T7.out.cells
    have hdead := lowest_dead l
    have hnl := lowest_le l
    rw [HNN.out] at hdead hnl
    have hmany : (liveN l : Int) + 1 = (liveN (putL l n (s.data.toList, 1)) : Int) := by
      rw [liveN_put hnl hdead (s.data.toList, 1) rfl]
      omega
    have HFIN : Hid (∀ (w' : World) (hb' hc' : Nat) (hd' nx' : List Int) (ch' : Nat → List Nat), Tb w' b most seed hb' hc' (.slice (some ⟨g, 0, none⟩) (putL l n (s.data.toList, 1)).length cap) fv1 hd' nx' (putL l n (s.data.toList, 1)) (freeI (putL l n (s.data.toList, 1))) ((liveN l : Int) + 1) → Chains (hsN seed) hd' nx' (putL l n (s.data.toList, 1)) ch' (fun _ => True) → hd'.length ≤ 140000 → (hb' = hb ∨ w.heap.size ≤ hb') → Only (inO b hb lv fv) w w' →
        AddP w b O most seed (putL l (lowest l) (s.data.toList, 1), (lowest l : Int), 0) (.returned (.tuple #[.int .i64 n, .int .i64 0])) w') := by
      intro w' hb' hc' hd' nx' ch' h1 h2 h3 h4 h5
      rw [hmany] at h1
      rw [HNN.out]
      refine ⟨inO b hb' (.slice (some ⟨g, 0, none⟩) (putL l n (s.data.toList, 1)).length cap) fv1, rfl, ⟨hb', hc', _, fv1, hd', nx', ch', h1, h2, fun _ => Iff.rfl, h3⟩, h5.more (fun k hk => .inl ((T3.out k).2 hk)), fun k hk => ?_⟩
      rcases hk with h | h | h | h
      · exact .inl ((T3.out k).2 (.inl h))
      · rcases h4 with h4 | h4
        · exact .inl ((T3.out k).2 (.inr (.inl (h.trans h4))))
        · exact .inr (by omega)
      · rcases HIN.out k (.inr (.inr (.inl h))) with h6 | h6
        · exact .inl ((T3.out k).2 h6)
        · exact .inr h6
      · rcases HIN.out k (.inr (.inr (.inr h))) with h6 | h6
        · exact .inl ((T3.out k).2 h6)
        · exact .inr h6
    have HDEAD := Lib.hid hdead
    clear hdead hmany
    by_cases hgr : (hd.length : Int) < (liveN l : Int) + 1
    · have HTX : Hid (∀ m, liveB (putL l n (s.data.toList, 1)) m = true → (nmAt (putL l n (s.data.toList, 1)) m).1.length ≤ 64) := by
        intro m hm0
        have key : ∀ x : List UInt8, validB x = true → x.length ≤ 64 := fun x hx => by
          unfold validB at hx
          rw [Bool.and_eq_true, decide_eq_true_eq, decide_eq_true_eq] at hx
          exact hx.2
        rw [liveB_put hnl] at hm0
        rw [nmAt_put hnl]
        split
        · exact key _ HVV.out
        · rename_i e
          rw [if_neg e] at hm0
          exact key _ (HW.out.text m hm0)
      go_quiet (fail)
      go_wp2_with fail
      refine (grow_any (T7.out.drewN _) (by omega) HTX.out).mono ?_
      rintro e w8 ⟨rfl, hb', hc', hd', nx', ch', t8, t9, t10, t11, t12⟩
      have HEND := Lib.hid (HFIN.out w8 hb' hc' hd' nx' ch' t8 t9 (by omega) (.inr (Nat.le_trans O7.out.size t11)) ((O7.out.drewN _).trans t12 (fun k hk => by
        rcases hk with h | h | h | h
        · exact .inl (.inl h)
        · exact .inl (.inr (.inl h))
        · exact HIN.out k (.inr (.inr (.inl h)))
        · exact HIN.out k (.inr (.inr (.inr h))))))
      clear t8 t9 t10 t11 t12 HFIN T7 O7 T2 HDEAD HIN
      go_wp2_with fail
      go_ret2
      exact HEND.out
    · have hgr2 : decide ((hd.length : Int) < (liveN l : Int) + 1) = false := by simpa using hgr
      go_quiet (fail)
      go_wp2_with fail
      refine (head_any (T7.out.drewN _) s hs).mono ?_
      rintro e w8 ⟨rfl, b8⟩
      have hi := hs_lt T7.out.pos seed s.data.toList
      have hLl : n < (putL l n (s.data.toList, 1)).length := by rw [putL_len _ _ _ hnl]; omega
      have hlive : liveB (putL l n (s.data.toList, 1)) n = true := by rw [liveB_put hnl, if_pos rfl]; rfl
      have htxt : (nmAt (putL l n (s.data.toList, 1)) n).1 = s.data.toList := by rw [nmAt_put hnl, if_pos rfl]
      have hch := (T2.out.put hnl HDEAD.out (s.data.toList, 1) (-1)).push (n := n) hlive (fun h => h rfl) (i := hsN seed s.data.toList % hd.length) (by rw [htxt])
      have HCH := Lib.hid (hch.congr (Q := fun _ => True) (fun m _ => ⟨fun _ => trivial, fun _ => by
        by_cases e : m = n
        · exact .inr e
        · exact .inl e⟩))
      obtain ⟨i, hie⟩ : ∃ i, hsN seed s.data.toList % hd.length = i := ⟨_, rfl⟩
      rw [hie] at hi HCH
      simp only [hie]
      have T8 := Lib.hid ((T7.out.drewN _).below b8)
      have O8 := Lib.hid ((O7.out.drewN _).trans (Only.of_below b8 (fun _ => False)) (fun _ h => h.elim))
      have hgg : inO b hb lv fv g ∨ w.heap.size ≤ g := HIN.out g (.inr (.inr (.inl rfl)))
      have hgh : g ≠ hb := fun e => T7.out.hl (by rw [e]; rfl)
      have T9 := Lib.hid ((T8.out.setNext hLl (hd.getD i 0)).setHead i n)
      have O9 := Lib.hid ((O8.out.setCell1 hgg (n * 3 + 2) (.int .i64 (hd.getD i 0))).setCell1 (g := hb) (.inl (.inr (.inl rfl))) i (.int .i64 (n : Int)))
      clear c0 c1 c2 c3 c4 c5
      obtain ⟨c0, c1, c2, c3, c4, c5⟩ := T8.out.cells
      obtain ⟨n0, n1, n2⟩ := T8.out.names hLl
      have hhd := T8.out.head hi
      have hf0 := T8.out.thawl (n * 3 + 2)
      have hf1 := (T8.out.thaw i).2
      have HHL : Hid ((hd.set i (n : Int)).length ≤ 140000) := by unfold Hid; rw [List.length_set]; exact t4
      have hlow2 := T8.out.low
      generalize hd.getD i 0 = X at *
      generalize (putL nx n (-1)).getD n 0 = Y at *
      clear b8 hlive htxt hch hie O7 T7 O8 T8 T2 HDEAD hgg HIN n0 n1 c0 c1 c2 c4 c5 HVV HW
      go_wp2_with fail
      go_region
      have HEND := Lib.hid (HFIN.out _ hb hc _ _ _ T9.out.drew HCH.out HHL.out (.inl rfl) O9.out.drew)
      clear HFIN T9 O9 HCH HHL n2 hhd hf0 hf1 c3
      go_wp2_with fail
      go_ret2
      exact HEND.out
theorem add_any (hR : R < 2147483647) (s : ByteArray) (hs : s.size ≤ 140737488355328) :
    Calls Tryz.prog 64 #[.pointer (some ⟨b, 0, none⟩), .string s] w (AddP w b O most seed (addM most l s.data.toList)) := by
  rcases Bool.eq_false_or_eq_true (validB s.data.toList) with hv | hv
  · cases hf : findN l s.data.toList with
    | some n => exact add_there t hm hw hR s hs hv n hf
    | none =>
      by_cases hfull : most ≤ liveN l
      · exact add_full t hm hw s hs hv hf hfull
      · exact add_new t hm hm2 hw s hs hv hf hfull
  · exact add_bad t hm s hv
end
end Go.Proofs.YtfpkeinknhijaaaGreat
/- Release. -/
namespace Go.Proofs.YtfpkeinknhijaaaGreat
set_option linter.unusedVariables false
open Go.RowKit Go.Maps Go.Sort

/-- What Release leaves. -/
def RelP (w : World) (b : Nat) (O : Nat → Prop) (most seed : Int) (r : Nms × Bool × Int) (e : Ending) (w' : World) : Prop :=
  ∃ O', e = .returned (.tuple #[.bool r.2.1, .int .i64 r.2.2]) ∧ Tab w' b O' most seed r.1 ∧ Only O w w' ∧ (∀ g, O' g → O g ∨ w.heap.size ≤ g)
theorem RelP.same {w w' : World} {b : Nat} {O : Nat → Prop} {most seed e : Int} {x : Bool} {l : Nms} (t : Tab w' b O most seed l) (ho : Only O w w') : RelP w b O most seed (l, x, e) (.returned (.tuple #[.bool x, .int .i64 e])) w' :=
  ⟨O, rfl, t, ho, fun _ h => .inl h⟩
section
variable {w : World} {b : Nat} {O : Nat → Prop} {most seed R : Int} {l : Nms} (t : Tab w b O most seed l) (hm : 1 ≤ most) (hw : Wf most R l)
include t hm hw
theorem rel_no (n : Int) (h : hasM l n = false) :
    Calls Tryz.prog 65 #[.pointer (some ⟨b, 0, none⟩), .int .i64 n] w (RelP w b O most seed (relM l n)) := by
  have hM : relM l n = (l, false, 9) := by unfold relM; rw [if_neg (by rw [h]; decide)]
  rw [hM]
  have HA := Lib.hid (at_no t hm hw n h)
  have T := Lib.hid t
  clear t hw h hM
  go_enter Tryz.func65, Tryz.ntmps65
  go_wp2_with (go_at_call 81; refine HA.out.mono ?_; rintro e w1 ⟨rfl, rfl⟩)
  go_ret2
  exact RelP.same T.out (Only.refl _ _)
set_option maxHeartbeats 1000000 in
theorem rel_more (n : Nat) (h : liveB l n = true) (h1 : 1 < (nmAt l n).2) (hR : R ≤ 2147483647) :
    Calls Tryz.prog 65 #[.pointer (some ⟨b, 0, none⟩), .int .i64 n] w (RelP w b O most seed (relM l n)) := by
  have hM : relM l n = (l.set n ((nmAt l n).1, (nmAt l n).2 - 1), false, 0) := by
    unfold relM hasM
    rw [Int.toNat_natCast, if_pos (by rw [h]; simp), if_pos h1]
  rw [hM]
  have hn := live_lt h
  have hr := hw.refs n
  have hlow := t.low
  obtain ⟨hb, hc, lv, fv, hd, nx, ch, t1, t2, t3, t4⟩ := t
  obtain ⟨g, cap, rfl, hg, _, _⟩ := t1.lform (by omega)
  have hx : liveX ((nmAt l n).1, (nmAt l n).2 - 1) = true := by unfold liveX; simp; omega
  have hfree : freeL (l.set n ((nmAt l n).1, (nmAt l n).2 - 1)) = freeL l := by
    rw [freeL_live hn h, freeL_live (l := l.set n _) (n := n) (by rw [List.length_set]; exact hn) (by rw [liveB_set hn, if_pos rfl]; exact hx), freeBelow_set _ hn, freeAbove_set _ hn]
  have hmany : liveN (l.set n ((nmAt l n).1, (nmAt l n).2 - 1)) = liveN l := by
    have := liveN_set hn ((nmAt l n).1, (nmAt l n).2 - 1)
    rw [if_pos h, if_pos hx] at this
    omega
  have hch : Chains (hsN seed) hd nx (l.set n ((nmAt l n).1, (nmAt l n).2 - 1)) ch (fun _ => True) := t2.same (by rw [List.length_set]) (fun m => by
      rw [liveB_set hn]
      split
      · rename_i e; subst e; rw [h]; exact hx
      · rfl) (fun m _ => by
      rw [nmAt_set hn]
      split
      · rename_i e; subst e; rfl
      · rfl)
  have HE : Hid (∀ w', Only (inO b hb (.slice (some ⟨g, 0, none⟩) l.length cap) fv) w w' → Tb w' b most seed hb hc (.slice (some ⟨g, 0, none⟩) (l.set n ((nmAt l n).1, (nmAt l n).2 - 1)).length cap) fv hd nx (l.set n ((nmAt l n).1, (nmAt l n).2 - 1)) (freeI l) (liveN l) → RelP w b O most seed (l.set n ((nmAt l n).1, (nmAt l n).2 - 1), false, 0) (.returned (.tuple #[.bool false, .int .i64 0])) w') := by
    intro w' ho ht
    rw [List.length_set] at ht
    refine ⟨O, rfl, ⟨hb, hc, .slice (some ⟨g, 0, none⟩) l.length cap, fv, hd, nx, ch, ?_, hch, t3, t4⟩, ho.more (fun k hk => .inl ((t3 k).2 hk)), fun _ h => .inl h⟩
    unfold freeI
    rw [hfree, hmany]
    exact ht
  have HA := Lib.hid (at_yes t1 hm n h)
  obtain ⟨c0, c1, c2, c3, c4, c5⟩ := t1.cells
  obtain ⟨n0, n1, n2⟩ := t1.names hn
  have hfz := t1.thawl (n * 3 + 1)
  have O1 := Lib.hid ((Only.refl (inO b hb (.slice (some ⟨g, 0, none⟩) l.length cap) fv) w).setCell1 (g := g) (.inl (.inr (.inr (.inl rfl)))) (n * 3 + 1) (.int .i64 ((nmAt l n).2 - 1)))
  have T3 := Lib.hid (t1.setRefs hn ((nmAt l n).2 - 1))
  clear t1 t2 t3 hM hw h hfree hmany hch hx c0 c1 c2 c4 c5 n0 n2
  generalize (nmAt l n).2 = r at *
  have hr2 : (0 : Int) < r - 1 := by omega
  go_enter Tryz.func65, Tryz.ntmps65
  go_wp2_with (go_at_call 81; refine HA.out.mono ?_; rintro e w1 ⟨rfl, rfl⟩)
  go_ret2
  exact HE.out _ O1.out T3.out
end
/-- The link at the end of a part of a chain. -/
def LinkAt (hb i g : Nat) (pre : List Nat) (pb po : Nat) : Prop := (pre = [] ∧ pb = hb ∧ po = i) ∨ ∃ pre' p, pre = pre' ++ [p] ∧ pb = g ∧ po = p * 3 + 2
section
variable {w : World} {b : Nat} {most seed : Int} {hb hc g cap : Nat} {fv : Value} {hd nx : List Int} {l : Nms} {fr : List Int} {many : Int}
/-- What stands at the link. -/
theorem LinkAt.cell (t : Tb w b most seed hb hc (.slice (some ⟨g, 0, none⟩) l.length cap) fv hd nx l fr many) {i pb po : Nat} {pre rest : List Nat} {m : Nat} (h : LinkAt hb i g pre pb po) (hi : i < hd.length) (hok : chainOk nx (hd.getD i 0) (pre ++ m :: rest)) :
    w.cell? ⟨pb, po, none⟩ = some (.int .i64 (m : Int)) ∧ w.frozen? ⟨pb, po, none⟩ = false ∧ pb ≠ b := by
  rcases h with ⟨rfl, rfl, rfl⟩ | ⟨pre', p, rfl, rfl, rfl⟩
  · have h1 := t.head hi
    rw [List.nil_append] at hok
    rw [hok.1] at h1
    exact ⟨h1, (t.thaw po).2, fun e => t.bh e.symm⟩
  · rw [List.append_assoc, List.singleton_append] at hok
    obtain ⟨h1, h2⟩ := chainOk_split hok
    rw [t.len] at h2
    obtain ⟨_, _, h3⟩ := t.names h2
    rw [h1.1] at h3
    exact ⟨h3, t.thawl _, fun e => t.bl (by rw [e]; rfl)⟩
/-- The link is turned. -/
theorem LinkAt.turn (t : Tb w b most seed hb hc (.slice (some ⟨g, 0, none⟩) l.length cap) fv hd nx l fr many) {i pb po : Nat} {pre rest : List Nat} (h : LinkAt hb i g pre pb po) (hok : chainOk nx (hd.getD i 0) (pre ++ rest)) (v : Int) :
    ∃ hd' nx', Tb (w.setCell ⟨pb, po, none⟩ (.int .i64 v)) b most seed hb hc (.slice (some ⟨g, 0, none⟩) l.length cap) fv hd' nx' l fr many ∧ hd'.length = hd.length ∧ ((pre = [] ∧ hd' = hd.set i v ∧ nx' = nx) ∨ ∃ c0 p, pre = c0 ++ [p] ∧ hd' = hd ∧ nx' = nx.set p v) := by
  rcases h with ⟨rfl, rfl, rfl⟩ | ⟨pre', p, rfl, rfl, rfl⟩
  · exact ⟨_, _, t.setHead po v, by simp, .inl ⟨rfl, rfl, rfl⟩⟩
  · rw [List.append_assoc, List.singleton_append] at hok
    obtain ⟨h1, h2⟩ := chainOk_split hok
    rw [t.len] at h2
    exact ⟨_, _, t.setNext h2 v, rfl, .inr ⟨pre', p, rfl, rfl, rfl⟩⟩
end
end Go.Proofs.YtfpkeinknhijaaaGreat
/- Cloning and searching a slice of ints that reads; cloning names. -/
namespace Go.Proofs.YtfpkeinknhijaaaGreat
set_option linter.unusedVariables false
open Go.RowKit Go.Maps Go.Sort

theorem clone_reads (v : Value) (l : List Int) (w : World) (h : Reads w v (i64s l)) (hl : l.length ≤ 1000000) :
    Calls Tryz.prog 66 #[v] w fun e w' => ∃ v', e = .returned v' ∧ w'.ownsRow w.heap.size 3 1 v' l.length (i64s l) ∧ Below w.heap.size w w' := by
  obtain ⟨p, cap, rfl, _, h2⟩ := h
  rw [List.length_map] at h2 ⊢
  cases l with
  | nil =>
    cases p with
    | none => exact (Tryz.slices_Clone_int_nil 0 cap w).mono fun e w' ⟨h1, h2⟩ => ⟨_, h1, World.ownsRow_nil _ _ _ _, by rw [h2]; exact Below.refl _ _⟩
    | some a => exact (Tryz.slices_Clone_int_zero a cap w).mono fun e w' ⟨v', h1, h2, _, h3⟩ => ⟨v', h1, h2, h3⟩
  | cons x r =>
    rcases h2 with h0 | ⟨blk, off, rfl, hblk, hc, hcell⟩
    · cases h0
    · refine (Tryz.slices_Clone_int blk off (x :: r).length cap (x :: r) w (Nat.le_refl _) (by omega) (fun j hj => hcell j _ ?_)).mono ?_
      · rw [List.getElem?_map, List.getD_eq_getElem?_getD, List.getElem?_eq_getElem hj]; rfl
      · rintro e w' ⟨v', h1, h2, _, h3⟩
        rw [List.take_length] at h2
        exact ⟨v', h1, h2, h3⟩
theorem search_reads (v : Value) (l : List Int) (x : Int) (w : World) (h : Reads w v (i64s l)) (hl : l.length ≤ 1000000) (hs : l.Pairwise (· ≤ ·)) :
    Calls Tryz.prog 82 #[v, .int .i64 x] w fun e w' => (∃ c : Bool, e = .returned (.tuple #[.int .i64 (l.countP (· < x) : Nat), .bool c])) ∧ Below w.heap.size w w' := by
  obtain ⟨p, cap, rfl, _, h2⟩ := h
  rw [List.length_map] at h2 ⊢
  cases l with
  | nil =>
    refine (Tryz.slices_BinarySearch_int_empty p cap x w).mono ?_
    rintro e w' ⟨rfl, rfl⟩
    exact ⟨⟨false, rfl⟩, Below.refl _ _⟩
  | cons y r =>
    rcases h2 with h0 | ⟨blk, off, rfl, hblk, hc, hcell⟩
    · cases h0
    · refine (Tryz.slices_BinarySearch_int blk off (y :: r).length cap (y :: r) x w (Nat.le_refl _) (by omega) (fun j hj => hcell j _ ?_) (by rw [List.take_length]; exact hs)).mono ?_
      · rw [List.getElem?_map, List.getD_eq_getElem?_getD, List.getElem?_eq_getElem hj]; rfl
      · rintro e w' ⟨rfl, q, rfl⟩
        rw [List.take_length]
        exact ⟨⟨_, rfl⟩, below_drewN (Below.refl _ _) q⟩
def clnRen : Go.Shelf.Ren := ⟨fun | 41 => 84 | n => n, fun | 22 => 98 | 23 => 123 | 4 => 4 | n => n, fun n => n⟩
theorem clnLays : Go.Proofs.SlLaysE0.n41 Tryz.prog clnRen := {
  mixed := by kernel_rfl
  f41 := ⟨Tryz.f84.name, by decide, Tryz.func84.trans (congrArg some (by kernel_rfl))⟩
  t4 := Tryz.underlying4
  a4 := Tryz.isAgg4
  z4 := Tryz.sizeOf4
  v4 := Tryz.zeroValue4
  t22 := Tryz.underlying98
  a22 := Tryz.isAgg98
  z22 := Tryz.sizeOf98
  v22 := Tryz.zeroValue98 }
end Go.Proofs.YtfpkeinknhijaaaGreat
/- Release of the last reference. -/
namespace Go.Proofs.YtfpkeinknhijaaaGreat
set_option linter.unusedVariables false
open Go.RowKit Go.Maps Go.Sort

theorem countP_below (l : Nms) (n : Nat) (hn : liveB l n = true) : (freeI l).countP (· < (n : Int)) = (freeBelow l n).length := by
  have h := live_lt hn
  unfold freeI
  rw [freeL_live h hn, List.map_append, List.countP_append]
  have e1 : ((freeBelow l n).map (fun n : Nat => (n : Int))).countP (· < (n : Int)) = (freeBelow l n).length := by
    rw [List.countP_eq_length.2, List.length_map]
    intro x hx
    obtain ⟨m, hm, rfl⟩ := List.mem_map.1 hx
    have := freeBelow_lt hm
    simp; exact this
  have e2 : ((freeAbove l n).map (fun n : Nat => (n : Int))).countP (· < (n : Int)) = 0 := by
    rw [List.countP_eq_zero]
    intro x hx
    obtain ⟨m, hm, rfl⟩ := List.mem_map.1 hx
    have := freeAbove_gt hm
    simp; omega
  rw [e1, e2]; rfl
theorem free_insert (l : Nms) (n : Nat) (hn : liveB l n = true) : (freeI l).take (freeBelow l n).length ++ (n : Int) :: (freeI l).drop (freeBelow l n).length = freeI (l.set n ([], 0)) := by
  have h := live_lt hn
  unfold freeI
  rw [freeL_live h hn, freeL_give hn, List.map_append, List.take_left' (by simp), List.drop_left' (by simp), List.map_append, List.map_cons]
theorem freeI_sorted (l : Nms) : (freeI l).Pairwise (· ≤ ·) := by
  unfold freeI
  rw [List.pairwise_map]
  exact (freeL_sorted l).imp fun h => by omega

theorem Tb.ltO {w : World} {b : Nat} {most seed : Int} {hb hc : Nat} {lv fv : Value} {hd nx : List Int} {l : Nms} {fr : List Int} {many : Int} (t : Tb w b most seed hb hc lv fv hd nx l fr many) {k : Nat} (hk : inO b hb lv fv k) : k < w.heap.size := by
  rcases hk with rfl | rfl | h | h
  · exact t.box.lt
  · exact ownsRow_lt t.heads rfl
  · exact ownsRow_lt t.list h
  · exact t.fl k h
set_option maxHeartbeats 4000000 in
set_option maxRecDepth 100000 in
theorem rel_last {w : World} {b : Nat} {O : Nat → Prop} {most seed R : Int} {l : Nms} (t : Tab w b O most seed l) (hm : 1 ≤ most) (hw : Wf most R l) (n : Nat) (h : liveB l n = true) (h1 : ¬ 1 < (nmAt l n).2) :
    Calls Tryz.prog 65 #[.pointer (some ⟨b, 0, none⟩), .int .i64 n] w (RelP w b O most seed (relM l n)) := by
  have hM : relM l n = (l.set n ([], 0), true, 0) := by
    unfold relM hasM
    rw [Int.toNat_natCast, if_pos (by rw [h]; simp), if_neg h1]
  rw [hM]
  have hn := live_lt h
  have hpos : 0 < (nmAt l n).2 := by unfold liveB at h; simpa using h
  have hr1 : (nmAt l n).2 = 1 := by omega
  have hlow := t.low
  have htx : (nmAt l n).1.length ≤ 64 := by
    have := hw.text n h
    unfold validB at this
    rw [Bool.and_eq_true, decide_eq_true_eq, decide_eq_true_eq] at this
    exact this.2
  obtain ⟨hb, hc, lv, fv, hd, nx, ch, t1, t2, t3, t4⟩ := t
  obtain ⟨g, cap, rfl, hg, _, _⟩ := t1.lform (by omega)
  have HA := Lib.hid (at_yes t1 hm n h)
  obtain ⟨c0, c1, c2, c3, c4, c5⟩ := t1.cells
  obtain ⟨n0, n1, n2⟩ := t1.names hn
  rw [hr1] at n1
  have hfz := t1.thawl (n * 3 + 1)
  have O1 := Lib.hid ((Only.refl (inO b hb (.slice (some ⟨g, 0, none⟩) l.length cap) fv) w).setCell1 (g := g) (.inl (.inr (.inr (.inl rfl)))) (n * 3 + 1) (.int .i64 0))
  have t5 := t1.setRefs hn 0
  rw [List.length_set] at t5
  have T1 := Lib.hid t1
  have T2 := Lib.hid t2
  have T3 := Lib.hid t3
  have T5 := Lib.hid t5
  have HL := Lib.hid h
  clear t1 t2 t3 t5 hM hw h h1 hr1 hpos c0 c1 c2 c4 c5 n2
  go_enter Tryz.func65, Tryz.ntmps65
  go_wp2_with fail
  refine HA.out.mono ?_
  rintro e w1 ⟨rfl, rfl⟩
  go_wp2_with fail
  generalize w.setCell ⟨g, n * 3 + 1, none⟩ (.int .i64 0) = W1 at *
  obtain ⟨i, hie⟩ : ∃ i, hsN seed (nmAt l n).1 % hd.length = i := ⟨_, rfl⟩
  have hi : i < hd.length := hie ▸ hs_lt T1.out.pos seed (nmAt l n).1
  obtain ⟨q1, q2, hpl⟩ := T2.out.place HL.out
  rw [hie] at hpl
  have HPL := Lib.hid hpl
  have HOK : Hid (chainOk nx (hd.getD i 0) (ch i)) := T2.out.ok i hi
  have HND : Hid (ch i).Nodup := T2.out.nodup i hi
  have HIE := Lib.hid hie
  have HH := head_any T5.out ⟨(nmAt l n).1.toArray⟩ (by show (nmAt l n).1.toArray.size ≤ _; simp; omega)
  simp only [hie] at HH
  have HH := Lib.hid HH
  clear hpl hie n0 n1 c3 hfz HA htx
  refine HH.out.mono ?_
  rintro e w2 ⟨rfl, b2⟩
  have T6 := Lib.hid (T5.out.below b2)
  have O6 := Lib.hid (O1.out.trans (Only.of_below b2 (fun _ => False)) (fun _ h => h.elim))
  clear HH b2 T5 O1
  go_wp2_with fail
  go_loopg [8] (ch i).length (fun r v wr => ∃ (pre rest : List Nat) (pb po : Nat), r = rest.length ∧ v = .pointer (some ⟨pb, po, none⟩) ∧ ch i = pre ++ rest ∧ n ∈ rest ∧ LinkAt hb i g pre pb po ∧ Tb wr b most seed hb hc (.slice (some ⟨g, 0, none⟩) l.length cap) fv hd nx (l.set n ((nmAt l n).1, 0)) (freeI l) (liveN l) ∧ Only (inO b hb (.slice (some ⟨g, 0, none⟩) l.length cap) fv) w wr)
  case atStart => exact ⟨[], ch i, hb, i, rfl, rfl, rfl, by rw [HPL.out]; simp, .inl ⟨rfl, rfl, rfl⟩, T6.out, O6.out⟩
  case round =>
    clear T6 O6
    obtain ⟨pre, rest, pb, po, hr, rfl, hch, hmem, hlink, ht, ho⟩ := hrel
    cases rest with
    | nil => cases hmem
    | cons m rest =>
      have hok := HOK.out
      rw [hch] at hok
      have hl2 : (l.set n ((nmAt l n).1, (0 : Int))).length = l.length := List.length_set ..
      have ht' := ht
      rw [← hl2] at ht'
      obtain ⟨k0, k1, k2⟩ := hlink.cell ht' hi hok
      have hmn : m < l.length := by have := chainOk_lt hok m (by simp); rwa [T1.out.len] at this
      obtain ⟨c0, c1, c2, c3, c4, c5⟩ := ht.cells
      have HR := Lib.hid hr
      have HCH := Lib.hid hch
      have HLK := Lib.hid hlink
      have HT := Lib.hid ht
      have HO := Lib.hid ho
      have HM := Lib.hid hmem
      clear hr hch hlink ht ht' ho hmem hok hl2
      by_cases hmm : m = n
      · subst m
        obtain ⟨n0, n1, n2⟩ := (show Tb wr b most seed hb hc (.slice (some ⟨g, 0, none⟩) (l.set n ((nmAt l n).1, (0 : Int))).length cap) fv hd nx (l.set n ((nmAt l n).1, 0)) (freeI l) (liveN l) by rw [List.length_set]; exact HT.out).names (i := n) (by rw [List.length_set]; exact hn)
        obtain ⟨Y, hY⟩ : ∃ Y, nx.getD n 0 = Y := ⟨_, rfl⟩
        rw [hY] at n2
        have HY := Lib.hid hY
        have hturn := HLK.out.turn (show Tb wr b most seed hb hc (.slice (some ⟨g, 0, none⟩) (l.set n ((nmAt l n).1, (0 : Int))).length cap) fv hd nx (l.set n ((nmAt l n).1, 0)) (freeI l) (liveN l) by rw [List.length_set]; exact HT.out) (rest := n :: rest) (by rw [← HCH.out]; exact HOK.out) Y
        rw [List.length_set] at hturn
        have HTU := Lib.hid hturn
        clear hY hturn n0 n1 c0 c1 c2 c3 c4 c5
        go_upto_region 11 with (fail)
        obtain ⟨hd', nx', t6, hlen6, hlk⟩ := HTU.out
        have hpb : inO b hb (.slice (some ⟨g, 0, none⟩) l.length cap) fv pb := by
          rcases HLK.out with ⟨_, h, _⟩ | ⟨_, _, _, h, _⟩
          · exact .inr (.inl h)
          · rw [h]; exact .inr (.inr (.inl rfl))
        have o6 := HO.out.setCell1 (.inl hpb) po (.int .i64 Y)
        generalize wr.setCell ⟨pb, po, none⟩ (.int .i64 Y) = W6 at *
        rw [← HY.out] at hlk
        have hchain := T2.out.out HL.out (c1 := pre) (c2 := rest) (by rw [HIE.out]; exact HCH.out) (by rw [HIE.out]; exact hlk) 0
        have HLEN := Lib.hid hlen6
        have HC7 := Lib.hid hchain
        have t6' : Tb W6 b most seed hb hc (.slice (some ⟨g, 0, none⟩) (l.set n ((nmAt l n).1, (0 : Int))).length cap) fv hd' nx' (l.set n ((nmAt l n).1, 0)) (freeI l) (liveN l) := by rw [List.length_set]; exact t6
        have hn1 : n < (l.set n ((nmAt l n).1, (0 : Int))).length := by rw [List.length_set]; exact hn
        have t7 := t6'.setName hn1 [] 0 0
        rw [List.set_set, List.length_set] at t7
        obtain ⟨m0, m1, m2⟩ := t6'.names hn1
        have f0 := t6'.thawl (n * 3)
        have f1 := t6'.thawl (n * 3 + 1)
        have f2 := t6'.thawl (n * 3 + 2)
        have hg6 : inO b hb (.slice (some ⟨g, 0, none⟩) l.length cap) fv g := .inr (.inr (.inl rfl))
        have o7 := ((o6.setCell1 (.inl hg6) (n * 3) (.string ⟨#[]⟩)).setCell1 (.inl hg6) (n * 3 + 1) (.int .i64 0)).setCell1 (.inl hg6) (n * 3 + 2) (.int .i64 0)
        have T7 : Hid (Tb (((W6.setCell ⟨g, n * 3, none⟩ (.string ⟨#[]⟩)).setCell ⟨g, n * 3 + 1, none⟩ (.int .i64 0)).setCell ⟨g, n * 3 + 2, none⟩ (.int .i64 0)) b most seed hb hc (.slice (some ⟨g, 0, none⟩) l.length cap) fv hd' (nx'.set n 0) (l.set n ([], 0)) (freeI l) (liveN l)) := t7
        have O7 := Lib.hid o7
        clear t6 t6' t7 o6 o7 hlk hlen6 hchain HTU HT HO n2 k0 k1 k2 hpb
        go_upto_region 12 with (fail)
        generalize ((W6.setCell ⟨g, n * 3, none⟩ (.string ⟨#[]⟩)).setCell ⟨g, n * 3 + 1, none⟩ (.int .i64 0)).setCell ⟨g, n * 3 + 2, none⟩ (.int .i64 0) = W7 at *
        clear m0 m1 m2 f0 f1 f2
        obtain ⟨c0, c1, c2, c3, c4, c5⟩ := T7.out.cells
        have f5 := (T7.out.thaw 5).1
        have hlv1 := liveN_le l
        have T8 := Lib.hid (T7.out.setMany ((liveN l : Int) - 1))
        have O8 := Lib.hid (O7.out.setCell1 (g := b) (.inl (.inl rfl)) 5 (.int .i64 ((liveN l : Int) - 1)))
        have HFL : Hid ((freeI l).length ≤ 100000) := by unfold Hid freeI; rw [List.length_map]; have := freeL_len l; omega
        clear T7 O7
        go_upto_region 13 with (fail)
        generalize W7.setCell ⟨b, 5, none⟩ (.int .i64 ((liveN l : Int) - 1)) = W8 at *
        clear c0 c1 c2 c3 c4 c5 f5
        obtain ⟨c0, c1, c2, c3, c4, c5⟩ := T8.out.cells
        have HSE := search_reads fv (freeI l) n W8 T8.out.free (by have := HFL.out; omega) (freeI_sorted l)
        rw [countP_below l n HL.out] at HSE
        have HSE := Lib.hid HSE
        clear c0 c1 c2 c3 c5
        go_wp2_with fail
        refine HSE.out.mono ?_
        rintro e w9 ⟨⟨bb, rfl⟩, b9⟩
        have T9 := Lib.hid (T8.out.below b9)
        have O9 := Lib.hid (O8.out.trans (Only.of_below b9 (fun _ => False)) (fun _ h => h.elim))
        have HLT : Hid (∀ k, inO b hb (.slice (some ⟨g, 0, none⟩) l.length cap) fv k → k < w9.heap.size) := fun k hk => T9.out.ltO hk
        have HCL := Lib.hid (clone_reads fv (freeI l) w9 T9.out.free (by have := HFL.out; omega))
        clear HSE T8 O8 b9 c4
        obtain ⟨_, _, _, _, c4, _⟩ := T9.out.cells
        go_wp2_with fail
        refine HCL.out.mono ?_
        rintro e w10 ⟨v10, rfl, own10, b10⟩
        have T10 := Lib.hid (T9.out.below b10)
        have O10 := Lib.hid (O9.out.trans (Only.of_below b10 (fun _ => False)) (fun _ h => h.elim))
        have hs9 : w.heap.size ≤ w9.heap.size := O9.out.size
        have hs10 := b10.size
        have OWN10 := Lib.hid own10
        clear HCL T9 O9 b10 own10 c4
        go_wp2_with fail
        have hi9 : (freeBelow l n).length ≤ (freeI l).length := by rw [← countP_below l n HL.out]; exact List.countP_le_length
        have T11 := Lib.hid (T10.out.below ((Below.refl _ _).alloc (Nat.le_refl _) (.cells #[.int .i64 (n : Int)] 3)))
        have O11 := Lib.hid (O10.out.alloc (.cells #[.int .i64 (n : Int)] 3))
        refine (insert_any w9.heap.size v10 (freeI l) (freeBelow l n).length hi9 n w10.heap.size _ (OWN10.out.alloc _) (by have := HFL.out; omega) (Blk.new _ _ _) (fun e => by have := ownsRow_lt OWN10.out e; omega) (by simp; omega)).mono ?_
        rintro e w12 ⟨v12, rfl, own12, gr12, hat12⟩
        rw [free_insert l n HL.out] at own12
        have hlen12 : (freeI (l.set n ([], 0))).length = (freeI l).length + 1 := by
          rw [← free_insert l n HL.out, List.length_append, List.length_cons, List.length_take, List.length_drop]; omega
        rw [← hlen12] at own12
        obtain ⟨N, hN⟩ : ∃ N, (freeI (l.set n ([], 0))).length = N := ⟨_, rfl⟩
        rw [hN] at own12 hlen12
        have HN := Lib.hid hN
        clear hN
        obtain ⟨g12, cap12, he12, hge12, hlt12⟩ := own12.form (by omega)
        rw [he12]
        rw [he12] at own12 hat12
        have hS : Only (fun k => v10.ownBlock = some k) (w10.alloc (.cells #[.int .i64 (n : Int)] 3)) w12 := ⟨gr12.os, gr12.tape, gr12.output, gr12.size, fun k hk hnn => gr12.block k hk (fun e => hnn e.symm)⟩
        have hnot : ∀ k, inO b hb (.slice (some ⟨g, 0, none⟩) l.length cap) fv k → ¬ v10.ownBlock = some k := fun k hk e => by
          have h1 := (OWN10.out.lt k e).1
          have h2 := HLT.out k hk
          omega
        have T12 := T11.out.only hS hnot
        have hlt9 : w.heap.size ≤ g12 := by omega
        obtain ⟨_, _, _, _, c4, _⟩ := T12.cells
        have f4 := (T12.thaw 4).1
        have hfresh : ∀ k, inO b hb (.slice (some ⟨g, 0, none⟩) l.length cap) fv k → g12 ≠ k := fun k hk e => by
          have h2 := HLT.out k hk
          omega
        have hrd : Reads w12 (.slice (some ⟨g12, 0, none⟩) N cap12) (i64s (freeI (l.set n ([], 0)))) := Reads.of_own (base := w9.heap.size) (e := 3) (by rw [show (i64s (freeI (l.set n ([], 0)))).length = N from (List.length_map ..).trans HN.out]; exact own12) (by rw [show (i64s (freeI (l.set n ([], 0)))).length = N from (List.length_map ..).trans HN.out]; have := HFL.out; omega)
        have T13 := Lib.hid (T12.setFree (.slice (some ⟨g12, 0, none⟩) N cap12) (freeI (l.set n ([], 0))) hrd (fun e => hfresh b (.inl rfl) (by simp [Value.ownBlock] at e; exact e)) (fun e => hfresh hb (.inr (.inl rfl)) (by simp [Value.ownBlock] at e; exact e)) (fun k hk e => hfresh k (.inr (.inr (.inl hk))) (by simp [Value.ownBlock] at e; exact e)) (fun k hk => by simp [Value.ownBlock] at hk; rw [← hk]; exact hlt12))
        have O13 := Lib.hid ((O11.out.trans hS (fun k hk => .inr (by have := (OWN10.out.lt k hk).1; omega))).setCell1 (g := b) (.inl (.inl rfl)) 4 (.slice (some ⟨g12, 0, none⟩) N cap12))
        have hmany : (liveN l : Int) - 1 = (liveN (l.set n ([], 0)) : Int) := by
          have := liveN_set hn ([], (0 : Int))
          rw [if_pos HL.out, if_neg (by decide)] at this
          omega
        have HEND : Hid (RelP w b O most seed (l.set n ([], 0), true, 0) (.returned (.tuple #[.bool true, .int .i64 0])) (w12.setCell ⟨b, 4, none⟩ (.slice (some ⟨g12, 0, none⟩) N cap12))) := by
          have t13 := T13.out
          rw [hmany] at t13
          have t13' : Tb (w12.setCell ⟨b, 4, none⟩ (.slice (some ⟨g12, 0, none⟩) N cap12)) b most seed hb hc (.slice (some ⟨g, 0, none⟩) l.length cap) (.slice (some ⟨g12, 0, none⟩) N cap12) hd' (nx'.set n 0) (l.set n ([], 0)) (freeI (l.set n ([], 0))) (liveN (l.set n ([], 0))) := t13
          refine ⟨inO b hb (.slice (some ⟨g, 0, none⟩) l.length cap) (.slice (some ⟨g12, 0, none⟩) N cap12), rfl, ⟨hb, hc, _, _, hd', nx'.set n 0, _, t13', HC7.out, fun _ => Iff.rfl, by rw [HLEN.out]; exact t4⟩, O13.out.more (fun k hk => .inl ((T3.out k).2 hk)), fun k hk => ?_⟩
          rcases hk with h | h | h | h
          · exact .inl ((T3.out k).2 (.inl h))
          · exact .inl ((T3.out k).2 (.inr (.inl h)))
          · exact .inl ((T3.out k).2 (.inr (.inr (.inl h))))
          · simp [Value.ownBlock] at h; exact .inr (by omega)
        clear own12 gr12 hat12 hS hnot T12 T13 O13 hrd hmany hfresh T10 T11 O10 O11 OWN10 hlen12
        go_wp2_with fail
        go_ret2
        exact HEND.out
      · have e1 : ((m : Int) == (n : Int)) = false := by rw [beq_eq_false_iff_ne]; omega
        have e2 : ((m : Int) != (n : Int)) = true := by rw [bne_iff_ne]; omega
        clear hmm
        go_wp2_with fail
        go_quiet (fail)
        have HT2 := Lib.hid (HT.out.drewN nq)
        have HO2 := Lib.hid (HO.out.drewN nq)
        clear HT HO k0 k1 c0 c1 c2 c3 c4 c5
        go_wp2_with fail
        go_roundg rest.length
        case measure => rw [HR.out]; simp
        case rel =>
          refine ⟨pre ++ [m], rest, g, m * 3 + 2, rfl, rfl, by rw [HCH.out]; simp, ?_, .inr ⟨pre, m, rfl, rfl, rfl⟩, HT2.out, HO2.out⟩
          rcases List.mem_cons.1 HM.out with h | h
          · exfalso; subst h; simp at e1
          · exact h
theorem rel_any {w : World} {b : Nat} {O : Nat → Prop} {most seed R : Int} {l : Nms} (t : Tab w b O most seed l) (hm : 1 ≤ most) (hw : Wf most R l) (hR : R ≤ 2147483647) (n : Int) :
    Calls Tryz.prog 65 #[.pointer (some ⟨b, 0, none⟩), .int .i64 n] w (RelP w b O most seed (relM l n)) := by
  rcases Bool.eq_false_or_eq_true (hasM l n) with h | h
  · unfold hasM at h
    rw [Bool.and_eq_true, decide_eq_true_eq] at h
    obtain ⟨k, rfl⟩ := Int.eq_ofNat_of_zero_le h.1
    rw [Int.toNat_natCast] at h
    by_cases h1 : 1 < (nmAt l k).2
    · exact rel_more t hm hw k h.2 h1 hR
    · exact rel_last t hm hw k h.2 h1
  · exact rel_no t hm hw n h
end Go.Proofs.YtfpkeinknhijaaaGreat
/- New and Names of the program. -/
namespace Go.Proofs.YtfpkeinknhijaaaGreat
set_option linter.unusedVariables false
open Go.RowKit Go.Maps Go.Sort

theorem new_bad (most seed : Int) (h : most < 1 ∨ 65536 < most) (w : World) :
    Calls Tryz.prog 18 #[.int .i64 most, .int .u64 seed] w fun e w' => e = .returned (.tuple #[.pointer none, .int .i64 2]) ∧ w = w' := by
  by_cases h1 : most < 1
  · go_enter Tryz.func18, Tryz.ntmps18
    go_wp2
    go_ret2
    exact ⟨rfl, rfl⟩
  · have h2 : 65536 < most := by omega
    clear h
    go_enter Tryz.func18, Tryz.ntmps18
    go_wp2
    go_ret2
    exact ⟨rfl, rfl⟩
def NewP (w : World) (most seed : Int) (e : Ending) (w' : World) : Prop := ∃ b O, e = .returned (.tuple #[.pointer (some ⟨b, 0, none⟩), .int .i64 0]) ∧ Tab w' b O most seed [] ∧ (∀ g, O g → w.heap.size ≤ g) ∧ Below w.heap.size w w'
theorem new_ok (most seed : Int) (h1 : 1 ≤ most) (h2 : most ≤ 65536) (s0 : 0 ≤ seed) (s1 : seed ≤ 18446744073709551615) (w : World) :
    Calls Tryz.prog 18 #[.int .i64 most, .int .u64 seed] w (NewP w most seed) := by
  have hB1 : Below w.heap.size w (w.alloc (.cells #[.int .i64 (-1), .int .i64 (-1)] 3)) := (Below.refl _ _).alloc (Nat.le_refl _) _
  have hB : Below w.heap.size w ((w.alloc (.cells #[.int .i64 (-1), .int .i64 (-1)] 3)).alloc (.cells (tbCells most seed (.slice (some ⟨w.heap.size, 0, none⟩) 2 2) (.slice none 0 0) (.slice none 0 0) 0) 100)) := hB1.alloc (by simp) _
  have hbk := Blk.alloc (Blk.new w 3 #[.int .i64 (-1), .int .i64 (-1)]) (.cells (tbCells most seed (.slice (some ⟨w.heap.size, 0, none⟩) 2 2) (.slice none 0 0) (.slice none 0 0) 0) 100)
  have hbx := Blk.new (w.alloc (.cells #[.int .i64 (-1), .int .i64 (-1)] 3)) 100 (tbCells most seed (.slice (some ⟨w.heap.size, 0, none⟩) 2 2) (.slice none 0 0) (.slice none 0 0) 0)
  rw [show (w.alloc (.cells #[.int .i64 (-1), .int .i64 (-1)] 3)).heap.size = w.heap.size + 1 by simp] at hbx
  have hEND : Hid (NewP w most seed (.returned (.tuple #[.pointer (some ⟨w.heap.size + 1, 0, none⟩), .int .i64 0])) ((w.alloc (.cells #[.int .i64 (-1), .int .i64 (-1)] 3)).alloc (.cells (tbCells most seed (.slice (some ⟨w.heap.size, 0, none⟩) 2 2) (.slice none 0 0) (.slice none 0 0) 0) 100))) := by
    have hch := Chains.fresh (hsN seed) (H := 2) (by decide) (nx := []) (l := []) rfl
    refine ⟨w.heap.size + 1, inO (w.heap.size + 1) w.heap.size (.slice none 0 0) (.slice none 0 0), rfl, ⟨w.heap.size, 2, _, _, [-1, -1], [], fun _ => [], ⟨hbx, ?_, World.ownsRow_nil _ _ _ _, Reads.nil _ _ _, rfl, by decide, by decide, by decide, by omega, by simp [Value.ownBlock], by simp [Value.ownBlock], by simp [Value.ownBlock], by simp [Value.ownBlock], fun g hg => by simp [Value.ownBlock] at hg, s0, s1, fun g hg => by simp [Value.ownBlock] at hg⟩, hch.congr (fun n hn => by cases hn), fun _ => Iff.rfl, by decide⟩, fun g hg => ?_, hB⟩
    · exact owns_of_block (L := [.int .i64 (-1), .int .i64 (-1)]) (Nat.zero_le _) hbk rfl (Nat.le_refl _) (by unfold maxLen; decide) rfl
    · rcases hg with h | h | h | h
      · omega
      · omega
      · simp [Value.ownBlock] at h
      · simp [Value.ownBlock] at h
  clear hB1 hB hbk hbx
  go_enter Tryz.func18, Tryz.ntmps18
  go_wp2
  go_ret2
  exact hEND.out

/-! ### Names -/
def liveTexts (l : Nms) : List (List UInt8) := (l.filter liveX).map (·.1)
def namesL (l : Nms) : List (List UInt8) := (liveTexts l).mergeSort leB
theorem liveTexts_len (l : Nms) : (liveTexts l).length = liveN l := by unfold liveTexts liveN; rw [List.length_map]
theorem namesL_len (l : Nms) : (namesL l).length = liveN l := by unfold namesL; rw [List.length_mergeSort, liveTexts_len]
theorem liveTexts_take {l : Nms} {k : Nat} (hk : k < l.length) : liveTexts (l.take (k + 1)) = liveTexts (l.take k) ++ (if liveB l k = true then [(nmAt l k).1] else []) := by
  have e : l.take (k + 1) = l.take k ++ [nmAt l k] := by rw [List.take_add_one, nmAt_get hk]; rfl
  unfold liveTexts
  rw [e, List.filter_append, List.map_append]
  congr 1
  have e2 : liveX (nmAt l k) = liveB l k := rfl
  rw [List.filter_cons, e2]
  split
  · simp
  · simp
theorem info_str : (Tryz.prog.info? 9).map (fun i => (i.zero, i.size, i.bytes)) = some (some (.string ⟨#[]⟩), 1, 16) := by kernel_rfl
def NamesP (w : World) (l : Nms) (e : Ending) (w' : World) : Prop := ∃ v', e = .returned v' ∧ w'.ownsRow w.heap.size 9 1 v' (namesL l).length ((namesL l).map encStr) ∧ Below w.heap.size w w'
set_option maxHeartbeats 2000000 in
set_option maxRecDepth 100000 in
theorem names_any {w : World} {b : Nat} {O : Nat → Prop} {most seed : Int} {l : Nms} (t : Tab w b O most seed l) (hm : 1 ≤ most) :
    Calls Tryz.prog 54 #[.pointer (some ⟨b, 0, none⟩)] w (NamesP w l) := by
  have HN := Lib.hid (none_no t.box hm)
  have hlow := t.low
  obtain ⟨hb, hc, lv, fv, hd, nx, ch, t1, t2, t3, t4⟩ := t
  have hslice : ∃ p cap, lv = .slice p l.length cap := by
    rcases t1.list.2 with ⟨e1, e2⟩ | ⟨g, cap, _, e1, _⟩
    · exact ⟨none, 0, by rw [e1, e2]⟩
    · exact ⟨_, _, e1⟩
  obtain ⟨p, cap, rfl⟩ := hslice
  obtain ⟨c0, c1, c2, c3, c4, c5⟩ := t1.cells
  obtain ⟨i0, hi, hz0, hz1, hz2⟩ := info_parts info_str
  have T1 := Lib.hid t1
  clear t1 t2 t3 t4 c0 c1 c2 c4 c5
  go_enter Tryz.func54, Tryz.ntmps54
  go_wp2_with fail
  refine HN.out.mono ?_
  rintro e w1 ⟨rfl, rfl⟩
  clear HN
  go_wp2_with fail
  go_loopg [3, 13] l.length (fun r v i wr => ∃ k : Nat, k ≤ l.length ∧ r + k = l.length ∧ i = .int .i64 k ∧ wr.ownsRow w.heap.size 9 1 v (liveTexts (l.take k)).length ((liveTexts (l.take k)).map encStr) ∧ Below w.heap.size w wr)
  case atStart => exact ⟨0, by omega, by omega, rfl, World.ownsRow_nil _ _ _ _, Below.refl _ _⟩
  case round =>
    obtain ⟨k, hk, hr, rfl, hown, hbl⟩ := hrel
    have HR := Lib.hid hr
    have HOWN := Lib.hid hown
    have HB := Lib.hid hbl
    have hsz := hbl.size
    clear hr hown hbl c3
    by_cases hlt : k < l.length
    · obtain ⟨g, cap2, he, hg, _, _⟩ := T1.out.lform (by omega)
      injection he with he1 _ he3
      subst he1 he3
      obtain ⟨n0, n1, n2⟩ := (T1.out.below HB.out).names hlt
      have hll : (liveTexts (l.take k)).length ≤ l.length := by
        have h1 := liveTexts_len (l.take k)
        have h2 := liveN_le (l.take k)
        rw [List.length_take] at h2
        omega
      have HT := Lib.hid (liveTexts_take hlt)
      have HB1 : Hid (Below w.heap.size w (wr.alloc (.cells #[.string ⟨(nmAt l k).1.toArray⟩, .int .i64 (nmAt l k).2, .int .i64 (nx.getD k 0)] 123))) := HB.out.alloc hsz _
      have HO1 := Lib.hid (HOWN.out.alloc (.cells #[.string ⟨(nmAt l k).1.toArray⟩, .int .i64 (nmAt l k).2, .int .i64 (nx.getD k 0)] 123))
      rcases Bool.eq_false_or_eq_true (liveB l k) with hv | hv
      · have hpos : 0 < (nmAt l k).2 := by unfold liveB at hv; simpa using hv
        have HNEW : Hid (liveTexts (l.take (k + 1)) = liveTexts (l.take k) ++ [(nmAt l k).1]) := by
          have := HT.out
          rw [if_pos hv] at this
          exact this
        clear HT hv
        generalize nx.getD k 0 = Y at *
        generalize (nmAt l k).1 = X at *
        generalize (nmAt l k).2 = r at *
        go_wp2_with (at_builtin; refine wpList_append_own _ rfl _ _ 36 rfl w.heap.size 9 i0 (.string ⟨#[]⟩) 1 16 Tryz.underlying36 hi hz0 hz1 hz2 rfl (by decide) _ _ _ rfl (HO1.out.alloc _) ⟨wr.heap.size + 1, 0, none⟩ 1 1 [encStr X] rfl rfl ?c1 ?c2 ?c3 ?c4 ?c5 ?_)
        case c2 => rfl
        case c3 => unfold maxLen; omega
        case c4 => omega
        case c5 => first | omega | (simp; omega)
        intro v' w3 hown' hg3 _
        have HB3 := Lib.hid (below_append HB1.out HB1.out.size HO1.out hg3)
        have HO3 : Hid (w3.ownsRow w.heap.size 9 1 v' (liveTexts (l.take (k + 1))).length ((liveTexts (l.take (k + 1))).map encStr)) := by
          rw [HNEW.out, List.length_append, List.map_append]
          exact hown'
        clear hown' hg3 HO1 HB1 hll
        go_wp2_with fail
        go_roundg (gk - 1)
        case measure => have := HR.out; omega
        case rel => exact ⟨k + 1, by omega, by have := HR.out; omega, by go_num, HO3.out, HB3.out⟩
      · have hpos : ¬ 0 < (nmAt l k).2 := by unfold liveB at hv; simpa using hv
        have HNEW : Hid (liveTexts (l.take (k + 1)) = liveTexts (l.take k)) := by
          have := HT.out
          rw [if_neg (by rw [hv]; decide), List.append_nil] at this
          exact this
        clear HT hv
        generalize nx.getD k 0 = Y at *
        generalize (nmAt l k).1 = X at *
        generalize (nmAt l k).2 = r at *
        go_wp2_with fail
        go_roundg (gk - 1)
        case measure => have := HR.out; omega
        case rel => exact ⟨k + 1, by omega, by have := HR.out; omega, by go_num, by rw [HNEW.out]; exact HO1.out, HB1.out⟩
    · obtain rfl : k = l.length := by omega
      have hown := HOWN.out
      rw [List.take_length] at hown
      have hll : (liveTexts l).length ≤ l.length := by
        have h1 := liveTexts_len l
        have h2 := liveN_le l
        omega
      have HRES : Hid (∀ (v' : Value) (w' : World), w'.ownsRow w.heap.size 9 1 v' (namesL l).length ((namesL l).map encStr) → Below w.heap.size w w' → NamesP w l (.returned v') w') := fun v' w' h1 h2 => ⟨v', rfl, h1, h2⟩
      rcases hown.2 with ⟨hnil, h0⟩ | ⟨g, cap2, cur, hv2, hbase, hblk, h1, h2, h3, h4⟩
      · have hemp : liveTexts l = [] := List.eq_nil_of_length_eq_zero h0
        have hN : namesL l = [] := by unfold namesL; rw [hemp]; simp
        rw [hN] at HRES
        subst hnil
        clear hown h0 hemp hN HOWN
        go_wp2_with fail
        refine ((Tryz.slices_Sort_string_none none 0 _).mono fun _ _ h => (⟨h.1, h.2.symm⟩ : _ ∧ wr = _)).mono ?_
        rintro e w' ⟨rfl, rfl⟩
        go_wp2_with fail
        go_ret
        exact HRES.out _ _ (World.ownsRow_nil _ _ _ _) HB.out
      · subst hv2
        have hH : Holds encStr wr g 0 (liveTexts l).toArray := holds_of_block hblk (by simpa using h4)
        have hgl : g < wr.heap.size := (Array.getElem?_eq_some_iff.1 hblk).1
        have hc := Lib.hid (Tryz.slices_Sort_string g 0 cap2 (liveTexts l) wr hH hgl (by omega))
        clear hown HOWN
        go_wp2_with (go_at_call 73; refine hc.out.mono ?_; rintro e w' ⟨rfl, nn, os, rfl⟩)
        go_ret
        have hfin := ownsRow_sorted (ss := liveTexts l) (ts := (liveTexts l).mergeSort leB) (n := nn) (os := os) (by simp) hbase hblk h1 h2 h3
        refine HRES.out _ _ ?_ (HB.out.grown (grownBy_sorted _) HB.out.size (fun j hj => by cases hj; omega))
        have e : (liveTexts l).length = (namesL l).length := by rw [namesL_len, liveTexts_len]
        unfold namesL at e ⊢
        rw [e] at hfin ⊢
        exact hfin
end Go.Proofs.YtfpkeinknhijaaaGreat
namespace Go.Proofs.YtfpkeinknhijaaaGreat
set_option linter.unusedVariables false
open Go.RowKit Go.Maps Go.Sort

theorem clone_names {w : World} (v : Value) (l : Nms) (nx : List Int) (h : w.ownsRow 0 123 3 v l.length (nmCells l nx)) (hlow : l.length ≤ 100000) :
    Calls Tryz.prog 84 #[v] w fun e w' => ∃ v', e = .returned v' ∧ w'.ownsRow w.heap.size 123 3 v' l.length (nmCells l nx) ∧ Below w.heap.size w w' := by
  have hh := h
  rcases h.2 with ⟨rfl, h0⟩ | ⟨g, cap, cur, rfl, hbg, hg, hn, hcap, hs, ht⟩
  · refine (AnyE.slices_Clone_nil clnLays 0 0 w).mono ?_
    rintro e w' ⟨rfl, rfl⟩
    have hx : nmCells l nx = [] := by
      have := h.1
      rw [h0] at this
      exact List.eq_nil_of_length_eq_zero (by simpa using this)
    rw [h0, hx]
    exact ⟨_, rfl, World.ownsRow_nil _ _ _ _, Below.refl _ _⟩
  · obtain ⟨i0, hi, hz0, hz1, hz2⟩ := info_parts info_name
    refine (AnyE.slices_Clone clnLays i0 (.agg #[.string ⟨#[]⟩, .int .i64 0, .int .i64 0]) 3 32 hi hz0 hz1 hz2 rfl (by decide) (fun w => by kernel_rfl) g 0 l.length cap (nmCells l nx) w h.1 (by unfold maxLen; omega) (by omega) (fun j u hj => ?_) (fun u hu => nmCells_one u hu)).mono ?_
    · rw [Nat.zero_add]
      exact (hh.cellAt j (by have := (List.getElem?_eq_some_iff.1 hj).1; rw [h.1] at this; exact this)).trans hj
    · rintro e w' ⟨v', h1, h2, _, h3⟩
      exact ⟨v', h1, h2, h3⟩
theorem owns_form {w : World} {B : Nat} {e : TypeId} {k : Nat} {v : Value} {n : Nat} {xs : List Value} (h : w.ownsRow B e k v n xs) : ∃ p cap, v = .slice p n cap := by
  rcases h.2 with ⟨rfl, h0⟩ | ⟨g, cap, cur, rfl, _⟩
  · exact ⟨none, 0, by rw [h0]⟩
  · exact ⟨_, _, rfl⟩
theorem Tb.headReads {w : World} {b : Nat} {most seed : Int} {hb hc : Nat} {lv fv : Value} {hd nx : List Int} {l : Nms} {fr : List Int} {many : Int} (t : Tb w b most seed hb hc lv fv hd nx l fr many) : Reads w (.slice (some ⟨hb, 0, none⟩) hd.length hc) (i64s hd) :=
  Reads.of_own (base := 0) (e := 3) (by rw [List.length_map]; exact t.heads) (by rw [List.length_map]; have := t.big; omega)
def CopyP (w : World) (most seed : Int) (l : Nms) (e : Ending) (w' : World) : Prop := ∃ b O, e = .returned (.pointer (some ⟨b, 0, none⟩)) ∧ Tab w' b O most seed l ∧ (∀ g, O g → w.heap.size ≤ g) ∧ Below w.heap.size w w'
theorem copyTb {w w5 w6 w7 : World} {most seed : Int} {hd nx : List Int} {l : Nms} {ch : Nat → List Nat} {p5 p6 p7 : Option Addr} {k5 k6 k7 : Nat} (s0 : 0 ≤ seed) (s1 : seed ≤ 18446744073709551615) (hpos : 0 < hd.length) (hbig : hd.length ≤ 140000) (hlow : l.length ≤ 100000) (hlen : nx.length = l.length) (hch : Chains (hsN seed) hd nx l ch (fun _ => True))
    (b5 : Below w.heap.size w w5) (b6 : Below w5.heap.size w5 w6) (b7 : Below w6.heap.size w6 w7)
    (o5 : w5.ownsRow w.heap.size 3 1 (.slice p5 hd.length k5) hd.length (i64s hd)) (o6 : w6.ownsRow w5.heap.size 123 3 (.slice p6 l.length k6) l.length (nmCells l nx)) (o7 : w7.ownsRow w6.heap.size 3 1 (.slice p7 (freeI l).length k7) (freeI l).length (i64s (freeI l))) :
    CopyP w most seed l (.returned (.pointer (some ⟨w7.heap.size, 0, none⟩))) (w7.alloc (.cells #[.int .i64 most, .int .u64 seed, .slice p5 hd.length k5, .slice p6 l.length k6, .slice p7 (freeL l).length k7, .int .i64 (liveN l)] 100)) := by
  have z5 := b5.size
  have z6 := b6.size
  have z7 := b7.size
  have hfl : (freeI l).length = (freeL l).length := by unfold freeI; simp
  have hfle := freeL_len l
  obtain ⟨g5, c5, e5, _, _⟩ := o5.form hpos
  injection e5 with e5 _ _
  subst e5
  have q5 := o5.lt g5 rfl
  have q6 := fun g h => o6.lt g h
  have q7 := fun g h => o7.lt g h
  have B8 : Below w7.heap.size w7 (w7.alloc (.cells #[.int .i64 most, .int .u64 seed, .slice (some ⟨g5, 0, none⟩) hd.length k5, .slice p6 l.length k6, .slice p7 (freeL l).length k7, .int .i64 (liveN l)] 100)) := (Below.refl _ _).alloc (Nat.le_refl _) _
  have hO7 : (w7.alloc (.cells #[.int .i64 most, .int .u64 seed, .slice (some ⟨g5, 0, none⟩) hd.length k5, .slice p6 l.length k6, .slice p7 (freeL l).length k7, .int .i64 (liveN l)] 100)).ownsRow 0 3 1 (.slice p7 (freeI l).length k7) (i64s (freeI l)).length (i64s (freeI l)) := by
    have hll : (i64s (freeI l)).length = (freeI l).length := by unfold i64s; rw [List.length_map]
    rw [hll]
    exact ownsRow_low (ownsRow_below o7 B8) (Nat.zero_le _)
  refine ⟨w7.heap.size, inO w7.heap.size g5 (.slice p6 l.length k6) (.slice p7 (freeI l).length k7), rfl, ⟨g5, k5, _, _, hd, nx, ch, ⟨?_, ?_, ?_, Reads.of_own hO7 (by rw [List.length_map]; omega), hlen, hpos, by omega, hlow, by omega, fun h => by have := q6 _ h; omega, fun h => by have := q6 _ h; omega, fun h => by have := q7 _ h; omega, fun h => by have := q7 _ h; omega, fun g h h2 => by have := q6 _ h; have := q7 _ h2; omega, s0, s1, fun g h => by have := q7 _ h; have := B8.size; omega⟩, hch, fun _ => Iff.rfl, hbig⟩, ?_, ?_⟩
  · rw [hfl]
    exact Blk.new _ _ _
  · exact ownsRow_low (ownsRow_below (ownsRow_below (ownsRow_below o5 b6) b7) B8) (Nat.zero_le _)
  · exact ownsRow_low (ownsRow_below (ownsRow_below o6 b7) B8) (Nat.zero_le _)
  · rintro g (rfl | rfl | h | h)
    · omega
    · exact q5.1
    · have := q6 _ h; omega
    · have := q7 _ h; omega
  · exact ((b5.trans (b6.mono z5)).trans (b7.mono (by omega))).trans (B8.mono (by omega))
set_option maxHeartbeats 2000000 in
set_option maxRecDepth 100000 in
theorem copy_any {w : World} {b : Nat} {O : Nat → Prop} {most seed : Int} {l : Nms} (t : Tab w b O most seed l) (hm : 1 ≤ most) :
    Calls Tryz.prog 69 #[.pointer (some ⟨b, 0, none⟩)] w (CopyP w most seed l) := by
  have HN := Lib.hid (none_no t.box hm)
  have hlow := t.low
  obtain ⟨hb, hc, lv, fv, hd, nx, ch, t1, t2, t3, t4⟩ := t
  have t0 := t1.drew
  have HFL : Hid ((freeI l).length ≤ 100000) := by unfold Hid freeI; rw [List.length_map]; have := freeL_len l; omega
  have HC1 := Lib.hid (clone_reads _ hd w.drew t0.headReads (by have := t1.big; omega))
  have HC2 : Hid (∀ w', Tb w' b most seed hb hc lv fv hd nx l (freeI l) (liveN l) → Calls Tryz.prog 84 #[lv] w' fun e w'' => ∃ v', e = .returned v' ∧ w''.ownsRow w'.heap.size 123 3 v' l.length (nmCells l nx) ∧ Below w'.heap.size w' w'') := fun w' t => clone_names lv l nx t.list hlow
  have HC3 : Hid (∀ w', Tb w' b most seed hb hc lv fv hd nx l (freeI l) (liveN l) → Calls Tryz.prog 66 #[fv] w' fun e w'' => ∃ v', e = .returned v' ∧ w''.ownsRow w'.heap.size 3 1 v' (freeI l).length (i64s (freeI l)) ∧ Below w'.heap.size w' w'') := fun w' t => clone_reads fv _ w' t.free (by have := HFL.out; omega)
  obtain ⟨c0, c1, c2, c3, c4, c5⟩ := t1.cells
  have T0 := Lib.hid t0
  have T1 := Lib.hid t1
  have HCH := Lib.hid t2
  clear t0 t1 t2 t3
  go_enter Tryz.func69, Tryz.ntmps69
  go_wp2_with fail
  refine HN.out.mono ?_
  rintro e w1 ⟨rfl, rfl⟩
  clear HN
  go_wp2_with fail
  go_region_held3 (fun w' => w'.cell? ⟨b, 0, none⟩ = some (.int .i64 most) ∧ w'.cell? ⟨b, 1, none⟩ = some (.int .u64 seed) ∧ w'.cell? ⟨b, 2, none⟩ = some (.slice (some ⟨hb, 0, none⟩) hd.length hc) ∧ w'.cell? ⟨b, 3, none⟩ = some lv ∧ w'.cell? ⟨b, 4, none⟩ = some fv ∧ w'.cell? ⟨b, 5, none⟩ = some (.int .i64 (liveN l))) (go_keep) (first
    | (go_at_call_of 66 (Value.slice (some ⟨hb, 0, none⟩) hd.length hc); refine HC1.out.mono ?_; rintro e w5 ⟨v5, rfl, o5, b5⟩; obtain ⟨p5, k5, rfl⟩ := owns_form o5; have T5 := Lib.hid (T0.out.below b5); obtain ⟨kk0, kk1, kk2, kk3, kk4, kk5⟩ := T5.out.cells)
    | (go_at_call 84; refine (HC2.out _ T5.out).mono ?_; rintro e w6 ⟨v6, rfl, o6, b6⟩; obtain ⟨p6, k6, rfl⟩ := owns_form o6; have T6 := Lib.hid (T5.out.below b6); obtain ⟨j0, j1, j2, j3, j4, j5⟩ := T6.out.cells)
    | (go_at_call 66; refine (HC3.out _ T6.out).mono ?_; rintro e w7 ⟨v7, rfl, o7, b7⟩; obtain ⟨p7, k7, rfl⟩ := owns_form o7; have T7 := Lib.hid (T6.out.below b7); obtain ⟨i0, i1, i2, i3, i4, i5⟩ := T7.out.cells))
  all_goals
    have HE := Lib.hid (copyTb (most := most) T1.out.seed0 T1.out.seed1 T1.out.pos t4 hlow T1.out.len HCH.out ((Below.refl w.heap.size w).drew.trans b5) b6 b7 o5 o6 o7)
    clear o5 o6 o7 b5 b6 b7 T5 T6 T7 T0 T1 HC1 HC2 HC3 HCH kk0 kk1 kk2 kk3 kk4 kk5 j0 j1 j2 j3 j4 j5 i0 i1 i2 i3 i4 i5
    go_wp2_with fail
    go_ret
    exact HE.out
end Go.Proofs.YtfpkeinknhijaaaGreat
