/- An index of entries: Right, Next, Cut. -/
import Derived.Test.YtfpkeinknhijaaaGreatRevR
import Derived.Test.YtfpkeinknhijaaaGreatMapI
import Derived.Test.YtfpkeinknhijaaaGreatIntC
import Derived.Deep.LoopGhost
import Derived.Deep.QuietTactic
import Derived.BigQuiet
import Derived.StillTailTactics
import Derived.Lib.Hide
import Derived.Test.YtfpkeinknhijaaaGreatTags
import Derived.Test.YtfpkeinknhijaaaGreatSlc
import Derived.Lib.SliceRun
/- An index of entries in memory; the small calls. -/
namespace Go.Proofs.YtfpkeinknhijaaaGreat
set_option linter.unusedVariables false
open Go.RowKit Go.Maps Go.Sort

abbrev Slc := Option Addr × Nat × Nat
abbrev slcV (s : Slc) : Value := .slice s.1 s.2.1 s.2.2
theorem slcV_inj : ∀ x y : Slc, slcV x = slcV y → x = y := fun ⟨a, b, c⟩ ⟨d, e, f⟩ h => by
  injection h with h1 h2 h3
  simp only at h1 h2 h3
  rw [h1, h2, h3]
abbrev entV (s : Slc × Slc) : Value := .agg #[slcV s.1, slcV s.2]
theorem entV_inj : ∀ x y : Slc × Slc, entV x = entV y → x = y := fun ⟨a, b⟩ ⟨d, e⟩ h => by
  injection h with h1
  injection h1 with h1
  injection h1 with h1 h2
  injection h2 with h2
  rw [show a = d from slcV_inj _ _ h1, show b = e from slcV_inj _ _ h2]
def slcZ : Slc := (none, 0, 0)
def entZ : Slc × Slc := (slcZ, slcZ)
abbrev MapL (w : World) (b n : Nat) (m : List (Nat × (Slc × Slc))) : Prop := World.mapv entV .u64 w Tryz.prog 22 (fun _ => True) b n m
abbrev MapN (w : World) (b n : Nat) (m : List (Nat × Slc)) : Prop := World.mapv slcV .i64 w Tryz.prog 3 (fun _ => True) b n m
theorem mapv_turn {α : Type} {val : α → Value} {q : IntKind} {w w' : World} {P : Program} {kt : TypeId} {ok : α → Prop} {b n : Nat} {m : List (Nat × α)} (h : World.mapv val q w P kt ok b n m) (he : w'.heap[b]? = w.heap[b]?) : World.mapv val q w' P kt ok b n m := by
  obtain ⟨⟨es, clock, hb, Ft, hs, hD⟩, q2⟩ := h
  exact ⟨⟨es, clock, he.trans hb, Ft, hs, hD⟩, q2⟩
abbrev idsV (l : List Nat) : List Value := l.map fun n : Nat => Value.int .u64 (n : Int)
abbrev numsV (l : List Nat) : List Value := l.map fun n : Nat => Value.int .i64 (n : Int)
/-- A row that is read and never written: its block lies in Rd. -/
structure Ro (w : World) (Rd : Nat → Prop) (v : Value) (xs : List Value) : Prop where
  rd : Reads w v xs
  blk : ∀ g, v.ownBlock = some g → Rd g
/-- The live entries in memory. -/
structure Lv (w : World) (lb n : Nat) (Rd : Nat → Prop) (lm : List (Nat × (Slc × Slc))) (A : List En) : Prop where
  mp : MapL w lb n lm
  has : ∀ id, mhas lm id = liveE A id
  at_ : ∀ e ∈ A, e.live = true → Ro w Rd (slcV (mget entZ lm e.id).1) (e.tags.map encStr) ∧ Ro w Rd (slcV (mget entZ lm e.id).2) (numsV e.nums)
/-- The slots in memory: own says of which number a row is (k + 4: of the number k). -/
structure Sv (w : World) (sb n : Nat) (own : Nat → Option Nat) (sm : List (Nat × Slc)) (S : List (Nat × Nat)) : Prop where
  mp : MapN w sb n sm
  has : ∀ k, mhas sm k = decide (ofX S k ≠ [])
  at_ : ∀ k, ofX S k ≠ [] → w.ownsRow 0 22 1 (slcV (mget slcZ sm k)) (ofX S k).length (idsV (ofX S k)) ∧ ∀ g, (slcV (mget slcZ sm k)).ownBlock = some g → own g = some (k + 4)
/-- The names in memory. -/
def Tv (w : World) (tb : Nat) (own : Nat → Option Nat) (most seed : Int) (l0 : Nms) : Prop := ∃ Ot, Tab w tb Ot most seed l0 ∧ ∀ g, Ot g → own g = some 3
/-- An index in memory: own says what each of its own blocks is (0 the index, 1 the map of entries, 2 the map of slots, 3 the table of names, k + 4 the slots of the number k); Rd: the blocks that are read. -/
structure Ry (w : World) (x tb lb sb : Nat) (most seed R : Int) (n : Nat) (own : Nat → Option Nat) (Rd : Nat → Prop) (lm : List (Nat × (Slc × Slc))) (sm : List (Nat × Slc)) (l0 : Nms) (d : Dx) : Prop where
  bk : Blk w x 63 #[.pointer (some ⟨tb, 0, none⟩), .int .u64 (lastE d.all : Int), .map (some lb), .map (some sb), .int .i64 (d.sl.length : Int), .int .i64 (wrongX d.all d.sl : Int)]
  tab : Tv w tb own most seed l0
  nq : Nq l0 d.nm
  wf : Wf most R l0
  lv : Lv w lb n Rd lm d.all
  sv : Sv w sb n own sm d.sl
  ox : own x = some 0
  ol : own lb = some 1
  os : own sb = some 2
  olt : ∀ g k, own g = some k → g < w.heap.size
  rd : ∀ g, Rd g → own g = none ∧ g < w.heap.size
  iw : Iw most R d
  ln : d.sl.length ≤ n ∧ d.all.length ≤ n
  ms : 1 ≤ most ∧ most ≤ 65536
  lb64 : ∀ e ∈ d.all, e.id ≤ 18446744073709551615
section
variable {w w' : World} {x tb lb sb : Nat} {most seed R : Int} {n : Nat} {own : Nat → Option Nat} {Rd : Nat → Prop} {lm : List (Nat × (Slc × Slc))} {sm : List (Nat × Slc)} {l0 : Nms} {d : Dx}
theorem Ro.only {S : Nat → Prop} {v : Value} {xs : List Value} (h : Ro w Rd v xs) (ho : Only S w w') (hn : ∀ g, Rd g → ¬ S g) : Ro w' Rd v xs := ⟨h.rd.only_ ho (fun g hg => hn g (h.blk g hg)), h.blk⟩
theorem Lv.only {A : List En} {S : Nat → Prop} (h : Lv w lb n Rd lm A) (ho : Only S w w') (h1 : ¬ S lb) (hn : ∀ g, Rd g → ¬ S g) : Lv w' lb n Rd lm A :=
  ⟨mapv_turn h.mp (ho.block lb h.mp.lt h1), h.has, fun e he hl => ⟨(h.at_ e he hl).1.only ho hn, (h.at_ e he hl).2.only ho hn⟩⟩
theorem Sv.only {T : List (Nat × Nat)} {S : Nat → Prop} (h : Sv w sb n own sm T) (ho : Only S w w') (h1 : ¬ S sb) (hn : ∀ g k, own g = some (k + 4) → ¬ S g) : Sv w' sb n own sm T :=
  ⟨mapv_turn h.mp (ho.block sb h.mp.lt h1), h.has, fun k hk => ⟨ownsRow_only (h.at_ k hk).1 ho (fun g hg => hn g k ((h.at_ k hk).2 g hg)), (h.at_ k hk).2⟩⟩
theorem Tv.only {S : Nat → Prop} (h : Tv w tb own most seed l0) (ho : Only S w w') (hn : ∀ g, own g = some 3 → ¬ S g) : Tv w' tb own most seed l0 := by
  obtain ⟨Ot, h1, h2⟩ := h
  exact ⟨Ot, h1.only ho (fun g hg => hn g (h2 g hg)), h2⟩
theorem Ry.only {S : Nat → Prop} (h : Ry w x tb lb sb most seed R n own Rd lm sm l0 d) (ho : Only S w w') (hn : ∀ g, own g ≠ none ∨ Rd g → ¬ S g) : Ry w' x tb lb sb most seed R n own Rd lm sm l0 d :=
  ⟨h.bk.only ho (hn x (.inl (by rw [h.ox]; simp))), h.tab.only ho (fun g hg => hn g (.inl (by rw [hg]; simp))), h.nq, h.wf, h.lv.only ho (hn lb (.inl (by rw [h.ol]; simp))) (fun g hg => hn g (.inr hg)), h.sv.only ho (hn sb (.inl (by rw [h.os]; simp))) (fun g k hg => hn g (.inl (by rw [hg]; simp))),
    h.ox, h.ol, h.os, fun g k hg => Nat.lt_of_lt_of_le (h.olt g k hg) ho.size, fun g hg => ⟨(h.rd g hg).1, Nat.lt_of_lt_of_le (h.rd g hg).2 ho.size⟩, h.iw, h.ln, h.ms, h.lb64⟩
theorem Ry.below (h : Ry w x tb lb sb most seed R n own Rd lm sm l0 d) (hb : Below w.heap.size w w') : Ry w' x tb lb sb most seed R n own Rd lm sm l0 d := h.only (Only.of_below hb (fun _ => False)) (fun _ _ h => h)
theorem Ry.cells (h : Ry w x tb lb sb most seed R n own Rd lm sm l0 d) : w.cell? ⟨x, 0, none⟩ = some (.pointer (some ⟨tb, 0, none⟩)) ∧ w.cell? ⟨x, 1, none⟩ = some (.int .u64 (lastE d.all : Int)) ∧ w.cell? ⟨x, 2, none⟩ = some (.map (some lb)) ∧ w.cell? ⟨x, 3, none⟩ = some (.map (some sb)) ∧ w.cell? ⟨x, 4, none⟩ = some (.int .i64 (d.sl.length : Int)) ∧ w.cell? ⟨x, 5, none⟩ = some (.int .i64 (wrongX d.all d.sl : Int)) :=
  ⟨Blk.cell h.bk 0, Blk.cell h.bk 1, Blk.cell h.bk 2, Blk.cell h.bk 3, Blk.cell h.bk 4, Blk.cell h.bk 5⟩
end
/-- An index in memory, by the document's: O its own blocks, Rd those that it reads. -/
def Ri (w : World) (x : Nat) (most seed R : Int) (n : Nat) (O Rd : Nat → Prop) (d : Dx) : Prop :=
  ∃ tb lb sb own lm sm l0, Ry w x tb lb sb most seed R n own Rd lm sm l0 d ∧ ∀ g, O g ↔ own g ≠ none
theorem wf_u64 {t : Nat} (h : t ≤ 18446744073709551615) : (Lit.int .u64 (t : Int)).wf = true := by
  have h1 : IntKind.u64.min = 0 := by decide
  have h2 : IntKind.u64.max = 18446744073709551615 := by decide
  show (decide (IntKind.u64.min ≤ (t : Int)) && decide ((t : Int) ≤ IntKind.u64.max)) = true
  rw [h1, h2, Bool.and_eq_true, decide_eq_true_eq, decide_eq_true_eq]
  omega
theorem wf_i64 {t : Nat} (h : t < 9223372036854775808) : (Lit.int .i64 (t : Int)).wf = true := by
  have h1 : IntKind.i64.min = -9223372036854775808 := by decide
  have h2 : IntKind.i64.max = 9223372036854775807 := by decide
  show (decide (IntKind.i64.min ≤ (t : Int)) && decide ((t : Int) ≤ IntKind.i64.max)) = true
  rw [h1, h2, Bool.and_eq_true, decide_eq_true_eq, decide_eq_true_eq]
  omega
theorem ent_zero (W : World) : (zeroValue 112).run Tryz.prog W = .ok (entV entZ) W := by kernel_rfl
theorem slc_zero (W : World) : (zeroValue 66).run Tryz.prog W = .ok (slcV slcZ) W := by kernel_rfl
theorem lookL {w : World} {b n : Nat} {m : List (Nat × (Slc × Slc))} (h : MapL w b n m) {t : Nat} (ht : t ≤ 18446744073709551615) :
    Sem.run Tryz.prog (Instr.lookup 60 (.map (some b)) (.int .u64 (t : Int)) true) w = .ok (.tuple #[entV (mget entZ m t), .bool (mhas m t)]) w :=
  h.lookOk Tryz.underlying22 Tryz.underlying60 trivial (ent_zero w) (wf_u64 ht)
theorem lookN {w : World} {b n : Nat} {m : List (Nat × Slc)} (h : MapN w b n m) {t : Nat} (ht : t < 65536) :
    Sem.run Tryz.prog (Instr.lookup 61 (.map (some b)) (.int .i64 (t : Int)) false) w = .ok (slcV (mget slcZ m t)) w :=
  h.lookup Tryz.underlying3 Tryz.underlying61 trivial (slc_zero w) (wf_i64 (by omega))
set_option maxHeartbeats 1000000 in
theorem rvnone_nil (w : World) : Calls Tryz.prog 47 #[.pointer none] w fun e w' => e = .returned (.bool true) ∧ w = w' := by
  go_enter Tryz.func47, Tryz.ntmps47
  go_wp2
  go_ret
  exact ⟨rfl, rfl⟩
set_option maxHeartbeats 1000000 in
set_option maxRecDepth 100000 in
theorem rvnone_zero {w : World} {x : Nat} (c0 : w.cell? ⟨x, 0, none⟩ = some (.pointer none)) : Calls Tryz.prog 47 #[.pointer (some ⟨x, 0, none⟩)] w fun e w' => e = .returned (.bool true) ∧ w = w' := by
  go_enter Tryz.func47, Tryz.ntmps47
  go_wp2
  go_ret
  exact ⟨rfl, rfl⟩
set_option maxHeartbeats 1000000 in
set_option maxRecDepth 100000 in
theorem rvnone_no {w : World} {x tb : Nat} (c0 : w.cell? ⟨x, 0, none⟩ = some (.pointer (some ⟨tb, 0, none⟩))) : Calls Tryz.prog 47 #[.pointer (some ⟨x, 0, none⟩)] w fun e w' => e = .returned (.bool false) ∧ w = w' := by
  go_enter Tryz.func47, Tryz.ntmps47
  go_wp2
  go_ret
  exact ⟨rfl, rfl⟩
set_option maxHeartbeats 1000000 in
set_option maxRecDepth 100000 in
theorem rvcheck_any {w : World} {x tb : Nat} (c0 : w.cell? ⟨x, 0, none⟩ = some (.pointer (some ⟨tb, 0, none⟩))) (t : Int) :
    Calls Tryz.prog 67 #[.pointer (some ⟨x, 0, none⟩), .int .i64 t] w fun e w' => e = .returned (.int .i64 (if numB t = true then 0 else 2)) ∧ w = w' := by
  have HN := Lib.hid (rvnone_no c0)
  have HT := Lib.hid (show numB t = (decide (0 ≤ t) && decide (t < 65536)) from rfl)
  generalize numB t = T at *
  clear c0
  cases T
  · have H2 : Hid (t < 0 ∨ 65536 ≤ t) := by
      unfold Hid
      have := HT.out.symm
      rw [Bool.and_eq_false_iff, decide_eq_false_iff_not, decide_eq_false_iff_not] at this
      omega
    go_enter Tryz.func67, Tryz.ntmps67
    go_wp2_with (go_at_call 47; refine HN.out.mono ?_; rintro e w1 ⟨rfl, rfl⟩)
    all_goals first
      | (go_ret; exact ⟨rfl, rfl⟩)
      | (exfalso; have := H2.out; omega)
  · have H2 : Hid (0 ≤ t ∧ t < 65536) := by
      unfold Hid
      have := HT.out.symm
      rw [Bool.and_eq_true, decide_eq_true_eq, decide_eq_true_eq] at this
      exact this
    go_enter Tryz.func67, Tryz.ntmps67
    go_wp2_with (go_at_call 47; refine HN.out.mono ?_; rintro e w1 ⟨rfl, rfl⟩)
    all_goals first
      | (go_ret; exact ⟨rfl, rfl⟩)
      | (exfalso; have := H2.out; omega)
section
variable {w : World} {x tb lb sb : Nat} {most seed R : Int} {n : Nat} {own : Nat → Option Nat} {Rd : Nat → Prop} {lm : List (Nat × (Slc × Slc))} {sm : List (Nat × Slc)} {l0 : Nms} {d : Dx}
set_option maxHeartbeats 1000000 in
set_option maxRecDepth 100000 in
theorem rvfind_no (h : Ry w x tb lb sb most seed R n own Rd lm sm l0 d) (id : Nat) (hid : id ≤ 18446744073709551615) (hl : liveE d.all id = false) :
    Calls Tryz.prog 60 #[.pointer (some ⟨x, 0, none⟩), .int .u64 (id : Int)] w fun e w' => e = .returned (.tuple #[.agg #[.slice none 0 0, .slice none 0 0], .int .i64 9]) ∧ Below w.heap.size w w' := by
  have HN := Lib.hid (fun W => @rvnone_no W x tb)
  have HB : Hid (Below w.heap.size w (w.alloc (.cells #[.slice none 0 0, .slice none 0 0] 112))) := (Below.refl _ _).alloc (Nat.le_refl _) _
  have h2 := h.below HB.out
  obtain ⟨d0, d1, d2, d3, d4, d5⟩ := h2.cells
  have hk := lookL h2.lv.mp hid
  rw [h.lv.has, hl] at hk
  generalize mget entZ lm id = z at hk
  obtain ⟨⟨p1, n1, k1⟩, ⟨p2, n2, k2⟩⟩ := z
  clear h h2 hl d1 d3 d4 d5
  go_enter Tryz.func60, Tryz.ntmps60
  go_wp2_with (go_at_call 47; refine (HN.out _ (by assumption)).mono ?_; rintro e w1 ⟨rfl, rfl⟩)
  refine bodyPost_ret (v := .tuple #[.agg #[.slice none 0 0, .slice none 0 0], .int .i64 9]) (by simp [results, Tryz.results60, go_sem]) rfl ⟨rfl, HB.out.alloc (by simp) _⟩
set_option maxHeartbeats 1000000 in
set_option maxRecDepth 100000 in
theorem rvfind_yes (h : Ry w x tb lb sb most seed R n own Rd lm sm l0 d) (id : Nat) (hid : id ≤ 18446744073709551615) (hl : liveE d.all id = true) :
    Calls Tryz.prog 60 #[.pointer (some ⟨x, 0, none⟩), .int .u64 (id : Int)] w fun e w' => e = .returned (.tuple #[entV (mget entZ lm id), .int .i64 0]) ∧ Below w.heap.size w w' := by
  have HN := Lib.hid (fun W => @rvnone_no W x tb)
  have HB : Hid (Below w.heap.size w (w.alloc (.cells #[.slice none 0 0, .slice none 0 0] 112))) := (Below.refl _ _).alloc (Nat.le_refl _) _
  have h2 := h.below HB.out
  obtain ⟨d0, d1, d2, d3, d4, d5⟩ := h2.cells
  have hk := lookL h2.lv.mp hid
  rw [h.lv.has, hl] at hk
  generalize mget entZ lm id = z at hk ⊢
  obtain ⟨⟨p1, n1, k1⟩, ⟨p2, n2, k2⟩⟩ := z
  clear h h2 hl d1 d3 d4 d5
  go_enter Tryz.func60, Tryz.ntmps60
  go_wp2_with (go_at_call 47; refine (HN.out _ (by assumption)).mono ?_; rintro e w1 ⟨rfl, rfl⟩)
  refine bodyPost_ret (v := .tuple #[.agg #[.slice p1 n1 k1, .slice p2 n2 k2], .int .i64 0]) (by simp [results, Tryz.results60, go_sem]) rfl ⟨rfl, ((Below.refl _ _).alloc (Nat.le_refl _) _).alloc (by simp) _⟩
set_option maxHeartbeats 1000000 in
set_option maxRecDepth 100000 in
theorem rvsizes_any (h : Ry w x tb lb sb most seed R n own Rd lm sm l0 d) :
    Calls Tryz.prog 15 #[.pointer (some ⟨x, 0, none⟩)] w fun e w' => e = .returned (.tuple #[.int .i64 (d.sl.length : Int), .int .i64 (wrongX d.all d.sl : Int)]) ∧ Below w.heap.size w w' := by
  have HN := Lib.hid (fun W => @rvnone_no W x tb)
  obtain ⟨d0, d1, d2, d3, d4, d5⟩ := h.cells
  clear h d1 d2 d3
  go_enter Tryz.func15, Tryz.ntmps15
  go_wp2_with (go_at_call 47; refine (HN.out _ (by assumption)).mono ?_; rintro e w1 ⟨rfl, rfl⟩)
  go_quiet (fail)
  go_wp2_with fail
  go_ret2
  exact ⟨rfl, below_drewN (Below.refl _ _) _⟩
theorem names_nq {l l' : Nms} (h : Nq l l') : namesL l = namesL l' := by unfold namesL liveTexts; rw [h.filter]
set_option maxHeartbeats 1000000 in
set_option maxRecDepth 100000 in
theorem rvfinds_any (h : Ry w x tb lb sb most seed R n own Rd lm sm l0 d) (s : ByteArray) (hs : s.size ≤ 140737488355328) :
    Calls Tryz.prog 49 #[.pointer (some ⟨x, 0, none⟩), .string s] w fun e w' => e = .returned (.tuple #[.int .i64 (findM d.nm s.data.toList).1, .int .i64 (findM d.nm s.data.toList).2]) ∧ Below w.heap.size w w' := by
  have HN := Lib.hid (fun W => @rvnone_no W x tb)
  obtain ⟨d0, d1, d2, d3, d4, d5⟩ := h.cells
  obtain ⟨Ot, ht, _⟩ := h.tab
  have HF := tfind_any ht h.ms.1 h.wf s hs
  rw [h.nq.findM h.wf.dist] at HF
  have HF := Lib.hid HF
  clear h d1 d2 d3 d4 d5 ht
  go_enter Tryz.func49, Tryz.ntmps49
  go_wp2_with (first
    | (go_at_call 47; refine (HN.out _ (by assumption)).mono ?_; rintro e w1 ⟨rfl, rfl⟩)
    | (go_at_call 70; refine HF.out.mono ?_; rintro e w1 ⟨rfl, b1⟩))
  go_ret2
  exact ⟨rfl, b1⟩
set_option maxHeartbeats 1000000 in
set_option maxRecDepth 100000 in
theorem rvroom_any (h : Ry w x tb lb sb most seed R n own Rd lm sm l0 d) :
    Calls Tryz.prog 58 #[.pointer (some ⟨x, 0, none⟩)] w fun e w' => e = .returned (.tuple #[.int .i64 (liveN d.nm), .int .i64 most]) ∧ Below w.heap.size w w' := by
  have HN := Lib.hid (fun W => @rvnone_no W x tb)
  obtain ⟨d0, d1, d2, d3, d4, d5⟩ := h.cells
  obtain ⟨Ot, ht, _⟩ := h.tab
  have HF := len_any ht h.ms.1
  rw [h.nq.liveN] at HF
  have HF := Lib.hid HF
  clear h d1 d2 d3 d4 d5 ht
  go_enter Tryz.func58, Tryz.ntmps58
  go_wp2_with (first
    | (go_at_call 47; refine (HN.out _ (by assumption)).mono ?_; rintro e w1 ⟨rfl, rfl⟩)
    | (go_at_call 75; refine HF.out.mono ?_; rintro e w1 ⟨rfl, b1⟩))
  go_ret2
  exact ⟨rfl, b1⟩
set_option maxHeartbeats 1000000 in
set_option maxRecDepth 100000 in
theorem rvknown_any (h : Ry w x tb lb sb most seed R n own Rd lm sm l0 d) :
    Calls Tryz.prog 25 #[.pointer (some ⟨x, 0, none⟩)] w (NamesP w d.nm) := by
  have HN := Lib.hid (fun W => @rvnone_no W x tb)
  obtain ⟨d0, d1, d2, d3, d4, d5⟩ := h.cells
  obtain ⟨Ot, ht, _⟩ := h.tab
  have HF := names_any ht h.ms.1
  unfold NamesP at HF
  rw [names_nq h.nq] at HF
  change Calls _ _ _ _ (NamesP w d.nm) at HF
  have HF := Lib.hid HF
  clear h d1 d2 d3 d4 d5 ht
  go_enter Tryz.func25, Tryz.ntmps25
  go_wp2_with (first
    | (go_at_call 47; refine (HN.out _ (by assumption)).mono ?_; rintro e w1 ⟨rfl, rfl⟩)
    | (go_at_call 54; refine HF.out.mono ?_; rintro e w1 ⟨v, rfl, hv, b1⟩))
  go_ret
  exact ⟨v, rfl, hv, b1⟩
set_option maxHeartbeats 1000000 in
set_option maxRecDepth 100000 in
theorem rvlive_any (h : Ry w x tb lb sb most seed R n own Rd lm sm l0 d) (id : Nat) (hid : id ≤ 18446744073709551615) :
    Calls Tryz.prog 32 #[.pointer (some ⟨x, 0, none⟩), .int .u64 (id : Int)] w fun e w' => e = .returned (.bool (liveE d.all id)) ∧ Below w.heap.size w w' := by
  cases hl : liveE d.all id
  · have HF := Lib.hid (rvfind_no h id hid hl)
    clear h hl
    go_enter Tryz.func32, Tryz.ntmps32
    go_wp2_with (go_at_call 60; refine HF.out.mono ?_; rintro e w1 ⟨rfl, b1⟩)
    go_ret
    exact ⟨rfl, b1.alloc b1.size _⟩
  · have HF := Lib.hid (rvfind_yes h id hid hl)
    clear h hl
    go_enter Tryz.func32, Tryz.ntmps32
    go_wp2_with (go_at_call 60; refine HF.out.mono ?_; rintro e w1 ⟨rfl, b1⟩)
    go_ret
    exact ⟨rfl, b1.alloc b1.size _⟩
end
end Go.Proofs.YtfpkeinknhijaaaGreat
/- An index of entries: Tags, Numbers, Slots, Next. -/
namespace Go.Proofs.YtfpkeinknhijaaaGreat
set_option linter.unusedVariables false
open Go.RowKit Go.Maps Go.Sort

theorem u64Info : (Tryz.prog.info? 22).map (fun i => (i.zero, i.size, i.bytes)) = some (some (.int .u64 0), 1, 8) := by kernel_rfl
theorem intInfo : (Tryz.prog.info? 3).map (fun i => (i.zero, i.size, i.bytes)) = some (some (.int .i64 0), 1, 8) := by kernel_rfl
theorem numsV_one (l : List Nat) : ∀ u ∈ numsV l, u.oneCell' = true := by
  intro u hu
  obtain ⟨n, _, rfl⟩ := List.mem_map.1 hu
  rfl
theorem idsV_one (l : List Nat) : ∀ u ∈ idsV l, u.oneCell' = true := by
  intro u hu
  obtain ⟨n, _, rfl⟩ := List.mem_map.1 hu
  rfl
/-- A new row of the call's own. -/
def NewRow (w : World) (t : TypeId) (xs : List Value) (e : Ending) (w' : World) : Prop := ∃ v, e = .returned v ∧ w'.ownsRow w.heap.size t 1 v xs.length xs ∧ Below w.heap.size w w'
theorem cloneS_any (v : Value) (l : List (List UInt8)) (w : World) (h : Reads w v (l.map encStr)) (hl : l.length ≤ 1000000) :
    Calls Tryz.prog 74 #[v] w (NewRow w 9 (l.map encStr)) := by
  obtain ⟨p, cap, rfl, hl2, h2⟩ := h
  rw [List.length_map] at h2 ⊢
  clear hl2
  rcases Nat.eq_zero_or_pos l.length with h0 | h0
  · have hl0 : l = [] := List.eq_nil_of_length_eq_zero h0
    subst hl0
    cases p with
    | none => exact (Tryz.slices_Clone_string_nil 0 cap w).mono fun e w' ⟨h1, h2⟩ => ⟨_, h1, World.ownsRow_nil _ _ _ _, by rw [h2]; exact Below.refl _ _⟩
    | some a => exact (Tryz.slices_Clone_string_zero a cap w).mono fun e w' ⟨v', h1, h2, _, h3⟩ => ⟨v', h1, h2, h3⟩
  · rcases h2 with h3 | ⟨blk, off, rfl, hblk, hc, hcell⟩
    · omega
    · obtain ⟨i0, hi, hz0, hz1, hz2⟩ := info_parts tags_info
      refine (AnyE.slices_Clone Tryz.laysSlE041_f74 i0 (.string ⟨#[]⟩) 1 16 hi hz0 hz1 hz2 rfl (by decide) (fun w => by kernel_rfl) blk off l.length cap (l.map encStr) w (by simp) (by unfold maxLen; omega) (by omega) (fun j u hj => ?_) (one_strings l)).mono ?_
      · exact hcell j u hj
      · rintro e w' ⟨v', h1, h2, _, h3⟩
        exact ⟨v', h1, by rw [List.length_map]; exact h2, h3⟩
theorem cloneI_any (v : Value) (l : List Nat) (w : World) (h : Reads w v (numsV l)) (hl : l.length ≤ 1000000) :
    Calls Tryz.prog 66 #[v] w (NewRow w 3 (numsV l)) := by
  have e : numsV l = i64s (l.map fun n : Nat => (n : Int)) := by unfold i64s; rw [List.map_map]; rfl
  unfold NewRow
  rw [e] at h ⊢
  refine (clone_reads v _ w h (by rw [List.length_map]; exact hl)).mono ?_
  rintro e w' ⟨v', h1, h2, h3⟩
  exact ⟨v', h1, by rw [List.length_map]; exact h2, h3⟩
theorem cloneU_any (v : Value) (l : List Nat) (B : Nat) (w : World) (h : w.ownsRow B 22 1 v l.length (idsV l)) (hl : l.length ≤ 1000000) :
    Calls Tryz.prog 52 #[v] w (NewRow w 22 (idsV l)) := by
  have hh := h
  unfold NewRow
  rw [List.length_map]
  rcases h.2 with ⟨rfl, h0⟩ | ⟨g, cap, cur, rfl, hbg, hg, hn, hcap, hs, ht⟩
  · refine (AnyE.slices_Clone_nil Tryz.laysSlE041_f52 0 0 w).mono ?_
    rintro e w' ⟨rfl, rfl⟩
    have hx : l = [] := List.eq_nil_of_length_eq_zero h0
    subst hx
    exact ⟨_, rfl, World.ownsRow_nil _ _ _ _, Below.refl _ _⟩
  · obtain ⟨i0, hi, hz0, hz1, hz2⟩ := info_parts u64Info
    refine (AnyE.slices_Clone Tryz.laysSlE041_f52 i0 (.int .u64 0) 1 8 hi hz0 hz1 hz2 rfl (by decide) (fun w => by kernel_rfl) g 0 l.length cap (idsV l) w (by simp) (by unfold maxLen; omega) (by omega) (fun j u hj => ?_) (idsV_one l)).mono ?_
    · rw [Nat.zero_add]
      exact (hh.cellAt j (by have := (List.getElem?_eq_some_iff.1 hj).1; rw [h.1] at this; exact this)).trans hj
    · rintro e w' ⟨v', h1, h2, _, h3⟩
      exact ⟨v', h1, h2, h3⟩
/-- A new row and an error. -/
def RowP (w : World) (t : TypeId) (xs : List Value) (er : Int) (e : Ending) (w' : World) : Prop := ∃ v, e = .returned (.tuple #[v, .int .i64 er]) ∧ w'.ownsRow w.heap.size t 1 v xs.length xs ∧ Below w.heap.size w w'
def tagsE (A : List En) (id : Nat) : List (List UInt8) := match getE A id with | some e => e.tags | none => []
def numsE (A : List En) (id : Nat) : List Nat := match getE A id with | some e => e.nums | none => []
def errE (A : List En) (id : Nat) : Int := if liveE A id = true then 0 else 9
theorem ownsRow_new {w : World} {B : Nat} {t : TypeId} {v : Value} {xs : List Value} (h : w.ownsRow B t 1 v xs.length xs) {B' : Nat} (hb : B' ≤ B) : w.ownsRow B' t 1 v xs.length xs := ownsRow_low h hb
section
variable {w : World} {x tb lb sb : Nat} {most seed R : Int} {n : Nat} {own : Nat → Option Nat} {Rd : Nat → Prop} {lm : List (Nat × (Slc × Slc))} {sm : List (Nat × Slc)} {l0 : Nms} {d : Dx}
theorem Ry.ent (h : Ry w x tb lb sb most seed R n own Rd lm sm l0 d) {id : Nat} (hl : liveE d.all id = true) : Ro w Rd (slcV (mget entZ lm id).1) ((tagsE d.all id).map encStr) ∧ Ro w Rd (slcV (mget entZ lm id).2) (numsV (numsE d.all id)) ∧ (tagsE d.all id).length ≤ 16 ∧ (numsE d.all id).length ≤ 16 := by
  unfold liveE at hl
  obtain ⟨e, he⟩ := Option.isSome_iff_exists.1 hl
  obtain ⟨h1, h2, h3⟩ := getE_some he
  have h4 := h.lv.at_ e h1 h3
  have h5 := h.iw.len e h1
  have h6 := (tagsB_is h5.2.2).2.2.1
  unfold tagsE numsE
  rw [he]
  rw [h2] at h4
  exact ⟨h4.1, h4.2, h6, by rw [h5.1]; exact h6⟩
set_option maxHeartbeats 1000000 in
set_option maxRecDepth 100000 in
theorem rvtags_any (h : Ry w x tb lb sb most seed R n own Rd lm sm l0 d) (id : Nat) (hid : id ≤ 18446744073709551615) :
    Calls Tryz.prog 56 #[.pointer (some ⟨x, 0, none⟩), .int .u64 (id : Int)] w (RowP w 9 ((tagsE d.all id).map encStr) (errE d.all id)) := by
  cases hl : liveE d.all id
  · have HF := Lib.hid (rvfind_no h id hid hl)
    have he : errE d.all id = 9 := by unfold errE; rw [if_neg (by rw [hl]; decide)]
    have ht : tagsE d.all id = [] := by unfold tagsE; unfold liveE at hl; rw [Option.isSome_eq_false_iff, Option.isNone_iff_eq_none] at hl; rw [hl]
    rw [he, ht]
    have HC := Lib.hid (fun W => cloneS_any (.slice none 0 0) [] W (Reads.nil _ _ _) (by decide))
    clear h hl he ht
    go_enter Tryz.func56, Tryz.ntmps56
    go_wp2_with (first
      | (go_at_call 60; refine HF.out.mono ?_; rintro e w1 ⟨rfl, b1⟩)
      | (go_at_call 74; refine (HC.out _).mono ?_; rintro e w2 ⟨v, rfl, hv, b2⟩))
    go_ret2
    have hb1 := b1.alloc b1.size (.cells #[.slice none 0 0, .slice none 0 0] 112)
    exact ⟨v, rfl, ownsRow_low hv hb1.size, hb1.trans (b2.mono hb1.size)⟩
  · have HF := Lib.hid (rvfind_yes h id hid hl)
    have he : errE d.all id = 0 := by unfold errE; rw [if_pos hl]
    have hr := (h.ent hl).1.rd
    have hn := (h.ent hl).2.2.1
    rw [he]
    generalize tagsE d.all id = ts at *
    generalize mget entZ lm id = z at *
    obtain ⟨⟨p1, n1, k1⟩, ⟨p2, n2, k2⟩⟩ := z
    have HC := Lib.hid (fun W hW => cloneS_any _ ts W (hr.below hW) (by omega))
    clear h hl he hr
    go_enter Tryz.func56, Tryz.ntmps56
    go_wp2_with (go_at_call 60; refine HF.out.mono ?_; rintro e w1 ⟨rfl, b1⟩)
    have hb1 := b1.alloc b1.size (.cells #[.slice p1 n1 k1, .slice p2 n2 k2] 112)
    refine (HC.out _ hb1).mono ?_
    rintro e w2 ⟨v, rfl, hv, b2⟩
    have HV := Lib.hid (And.intro hv b2)
    clear HC HF hv b2
    go_wp2_with fail
    go_ret2
    exact ⟨v, rfl, ownsRow_low HV.out.1 hb1.size, hb1.trans (HV.out.2.mono hb1.size)⟩
set_option maxHeartbeats 1000000 in
set_option maxRecDepth 100000 in
theorem rvnums_any (h : Ry w x tb lb sb most seed R n own Rd lm sm l0 d) (id : Nat) (hid : id ≤ 18446744073709551615) :
    Calls Tryz.prog 57 #[.pointer (some ⟨x, 0, none⟩), .int .u64 (id : Int)] w (RowP w 3 (numsV (numsE d.all id)) (errE d.all id)) := by
  cases hl : liveE d.all id
  · have HF := Lib.hid (rvfind_no h id hid hl)
    have he : errE d.all id = 9 := by unfold errE; rw [if_neg (by rw [hl]; decide)]
    have ht : numsE d.all id = [] := by unfold numsE; unfold liveE at hl; rw [Option.isSome_eq_false_iff, Option.isNone_iff_eq_none] at hl; rw [hl]
    rw [he, ht]
    have HC := Lib.hid (fun W => cloneI_any (.slice none 0 0) [] W (Reads.nil _ _ _) (by decide))
    clear h hl he ht
    go_enter Tryz.func57, Tryz.ntmps57
    go_wp2_with (first
      | (go_at_call 60; refine HF.out.mono ?_; rintro e w1 ⟨rfl, b1⟩)
      | (go_at_call 66; refine (HC.out _).mono ?_; rintro e w2 ⟨v, rfl, hv, b2⟩))
    go_ret2
    have hb1 := b1.alloc b1.size (.cells #[.slice none 0 0, .slice none 0 0] 112)
    exact ⟨v, rfl, ownsRow_low hv hb1.size, hb1.trans (b2.mono hb1.size)⟩
  · have HF := Lib.hid (rvfind_yes h id hid hl)
    have he : errE d.all id = 0 := by unfold errE; rw [if_pos hl]
    have hr := (h.ent hl).2.1.rd
    have hn := (h.ent hl).2.2.2
    rw [he]
    generalize numsE d.all id = ts at *
    generalize mget entZ lm id = z at *
    obtain ⟨⟨p1, n1, k1⟩, ⟨p2, n2, k2⟩⟩ := z
    have HC := Lib.hid (fun W hW => cloneI_any _ ts W (hr.below hW) (by omega))
    clear h hl he hr
    go_enter Tryz.func57, Tryz.ntmps57
    go_wp2_with (go_at_call 60; refine HF.out.mono ?_; rintro e w1 ⟨rfl, b1⟩)
    have hb1 := b1.alloc b1.size (.cells #[.slice p1 n1 k1, .slice p2 n2 k2] 112)
    refine (HC.out _ hb1).mono ?_
    rintro e w2 ⟨v, rfl, hv, b2⟩
    have HV := Lib.hid (And.intro hv b2)
    clear HC HF hv b2
    go_wp2_with fail
    go_ret2
    exact ⟨v, rfl, ownsRow_low HV.out.1 hb1.size, hb1.trans (HV.out.2.mono hb1.size)⟩
/-- The slots of a number, where there are any or none. -/
theorem Ry.slc (h : Ry w x tb lb sb most seed R n own Rd lm sm l0 d) (k : Nat) : w.ownsRow 0 22 1 (slcV (mget slcZ sm k)) (ofX d.sl k).length (idsV (ofX d.sl k)) := by
  by_cases hk : ofX d.sl k = []
  · have h1 := h.sv.has k
    rw [hk] at h1 ⊢
    rw [mget_none (by rw [h1]; rfl)]
    exact World.ownsRow_nil _ _ _ _
  · exact (h.sv.at_ k hk).1
theorem ofX_len (S : List (Nat × Nat)) (k : Nat) : (ofX S k).length ≤ S.length := by
  unfold ofX
  rw [List.length_map]
  exact List.length_filter_le _ _
def slotsN (S : List (Nat × Nat)) (t : Int) : List Nat := if numB t = true then ofX S t.toNat else []
set_option maxHeartbeats 1000000 in
set_option maxRecDepth 100000 in
theorem rvslots_any (h : Ry w x tb lb sb most seed R n own Rd lm sm l0 d) (hn : n ≤ 100000) (t : Int) :
    Calls Tryz.prog 50 #[.pointer (some ⟨x, 0, none⟩), .int .i64 t] w (RowP w 22 (idsV (slotsN d.sl t)) (if numB t = true then 0 else 2)) := by
  obtain ⟨d0, d1, d2, d3, d4, d5⟩ := h.cells
  have HC := Lib.hid (rvcheck_any d0 t)
  unfold slotsN
  cases ht : numB t
  · rw [ht] at HC
    clear h d0 d1 d2 d3 d4 d5 ht
    go_enter Tryz.func50, Tryz.ntmps50
    go_wp2_with (go_at_call 67; refine HC.out.mono ?_; rintro e w1 ⟨rfl, rfl⟩)
    go_ret2
    exact ⟨_, rfl, World.ownsRow_nil _ _ _ _, Below.refl _ _⟩
  · rw [ht] at HC
    obtain ⟨k, rfl⟩ : ∃ k : Nat, t = k := ⟨t.toNat, by unfold numB at ht; simp at ht; omega⟩
    have hk : k < 65536 := by unfold numB at ht; simp at ht; omega
    have hlk := lookN h.sv.mp hk
    have hr := h.slc k
    have hlen : (ofX d.sl k).length ≤ 1000000 := by have := ofX_len d.sl k; have := h.ln.1; omega
    rw [if_pos rfl, if_pos rfl, Int.toNat_natCast]
    generalize ofX d.sl k = L at *
    have HK := Lib.hid (cloneU_any _ L 0 w hr hlen)
    generalize mget slcZ sm k = z at *
    obtain ⟨p1, n1, k1⟩ := z
    clear h d0 d1 d2 d4 d5 ht hr
    go_enter Tryz.func50, Tryz.ntmps50
    go_wp2_with (first
      | (go_at_call 67; refine HC.out.mono ?_; rintro e w1 ⟨rfl, rfl⟩)
      | (go_at_call 52; refine HK.out.mono ?_; rintro e w2 ⟨v, rfl, hv, b2⟩))
    go_ret2
    exact ⟨v, rfl, hv, b2⟩
end
end Go.Proofs.YtfpkeinknhijaaaGreat
/- IndexFunc and DeleteFunc at []uint64 with a function that may make memory; Right. -/
namespace Go.Proofs.YtfpkeinknhijaaaGreat
set_option linter.unusedVariables false
open Go.RowKit Go.Maps Go.Sort

theorem owns_setCells {B : Nat} {e : TypeId} {g n cap : Nat} : ∀ {vs : List Value} {o : Nat} {w : World} {xs : List Value}, w.ownsRow B e 1 (.slice (some ⟨g, 0, none⟩) n cap) n xs → ∃ ys, (w.setCells g o vs).ownsRow B e 1 (.slice (some ⟨g, 0, none⟩) n cap) n ys ∧ ys.take o = xs.take o
  | [], _, _, xs, h => ⟨xs, h, rfl⟩
  | v :: vs, o, w, xs, h => by
    obtain ⟨ys, h1, h2⟩ := owns_setCells (vs := vs) (o := o + 1) (h.stored o v).1
    refine ⟨ys, h1, ?_⟩
    have := congrArg (List.take o) h2
    rw [List.take_take, List.take_take, Nat.min_eq_left (Nat.le_succ o)] at this
    rw [this, List.take_set_of_le (Nat.le_refl _)]
theorem owns_cut {B : Nat} {e : TypeId} {g n cap : Nat} {w : World} {xs : List Value} (h : w.ownsRow B e 1 (.slice (some ⟨g, 0, none⟩) n cap) n xs) {i : Nat} (hi : i ≤ n) : w.ownsRow B e 1 (.slice (some ⟨g, 0, none⟩) i cap) i (xs.take i) := by
  have hl := h.1
  rcases h.2 with ⟨h', _⟩ | ⟨g', cap', cur, h', hb, hg, hnc, hcm, hcs, htake⟩
  · simp at h'
  · simp only [Value.slice.injEq, Option.some.injEq, Addr.mk.injEq, and_true, true_and] at h'
    obtain ⟨rfl, rfl⟩ := h'
    refine ⟨by rw [List.length_take]; omega, .inr ⟨g, cap, cur, rfl, hb, hg, by omega, hcm, hcs, ?_⟩⟩
    rw [← htake, List.take_take, Nat.mul_one, Nat.mul_one, Nat.min_eq_left hi]
theorem only_setCells {w : World} {g : Nat} (o : Nat) (vs : List Value) : Only (fun z => z = g) w (w.setCells g o vs) := by
  have : ∀ (vs : List Value) (o : Nat) (w : World), Only (fun z => z = g) w (w.setCells g o vs) := by
    intro vs
    induction vs with
    | nil => intro o w; exact Only.refl _ _
    | cons v vs ih => intro o w; exact ((Only.refl (fun z => z = g) w).setCell1 (g := g) (.inl rfl) o v).trans (ih (o + 1) _) (fun _ h => .inl h)
  exact this vs o w
/-- A function value that tells of each element what q says, in any world that has turned only in block g. -/
def Tells (w : World) (g : Nat) (fn : Nat) (lb : Array Value) (q : Nat → Bool) (L : List Nat) : Prop :=
  ∀ W, Only (fun z => z = g) w W → ∀ u ∈ L, Calls Tryz.prog fn (#[.int .u64 (u : Int)] ++ lb) W fun e w' => e = .returned (.bool (q u)) ∧ Below W.heap.size W w'
section
variable {fn : Nat} {lb : Array Value} {q : Nat → Bool} {w : World} {g B cap : Nat} {L : List Nat}
set_option maxHeartbeats 1000000 in
set_option maxRecDepth 100000 in
theorem idxf_any (eg : ∀ args w, Sem.run Tryz.prog (callFunc fn args) w = .ok (.enter fn args) w) (h : w.ownsRow B 22 1 (.slice (some ⟨g, 0, none⟩) L.length cap) L.length (idsV L)) (hl : L.length ≤ 1000000) (ht : Tells w g fn lb q L) :
    Calls Tryz.prog 71 #[.slice (some ⟨g, 0, none⟩) L.length cap, .func (.func fn) #[] lb] w fun e w' => e = .returned (.int .i64 (idxI (L.findIdx? q))) ∧ Below w.heap.size w w' := by
  obtain ⟨N, hN⟩ : ∃ N, L.length = N := ⟨_, rfl⟩
  have HN := Lib.hid hN
  have HR := Lib.hid h
  have HT := Lib.hid ht
  rw [hN] at h hl ⊢
  obtain ⟨r0, hr0⟩ : ∃ r0, r0 = idxI (L.findIdx? q) := ⟨_, rfl⟩
  rw [← hr0]
  have HR0 := Lib.hid hr0
  clear h ht hr0 hN
  go_enter Tryz.func71, Tryz.ntmps71
  go_wp2_with fail
  go_loopg [8] N (fun r v wr => ∃ k : Nat, r + k = N ∧ v = .int .i64 (k : Int) ∧ Below w.heap.size w wr ∧ ∀ j (hj : j < L.length), j < k → q L[j] = false)
  case atStart => exact ⟨0, by omega, rfl, Below.refl _ _, fun j _ h => by omega⟩
  case round =>
    obtain ⟨k, hk, rfl, hb, hq⟩ := hrel
    have HK := Lib.hid hk
    have HQ := Lib.hid hq
    have HB := Lib.hid hb
    have hkn : k ≤ N := by omega
    clear hk hq hb
    by_cases hlt : k < N
    · have hlt2 : k < L.length := by rw [HN.out]; exact hlt
      have hc := (HR.out.cellAt k (by omega))
      rw [List.getElem?_map, List.getElem?_eq_getElem hlt2] at hc
      have hc2 : wr.cell? ⟨g, k, none⟩ = some (.int .u64 (L[k] : Int)) := (HB.out.cell (p := ⟨g, k, none⟩) (HR.out.lt g rfl).2).trans hc
      have hcall := HT.out wr (Only.of_below HB.out _) L[k] (List.getElem_mem hlt2)
      clear hc
      obtain ⟨u, hu⟩ : ∃ u, L[k] = u := ⟨_, rfl⟩
      rw [hu] at hc2 hcall
      have HU := Lib.hid hu
      have HCALL := Lib.hid hcall
      clear hu hcall
      cases hqu : q u with
      | true =>
        rw [hqu] at HCALL
        have HQU := Lib.hid hqu
        clear hqu
        go_wp2_with (go_at_fn fn; refine HCALL.out.mono ?_; rintro e w' ⟨rfl, b1⟩)
        go_ret
        refine ⟨?_, HB.out.trans (b1.mono HB.out.size)⟩
        have : L.findIdx? q = some k := by
          rw [List.findIdx?_eq_some_iff_getElem]
          exact ⟨hlt2, by rw [HU.out]; exact HQU.out, fun j hj => by have := HQ.out j (by omega) hj; rw [this]; decide⟩
        rw [HR0.out, this]
        rfl
      | false =>
        rw [hqu] at HCALL
        have HQU := Lib.hid hqu
        clear hqu
        go_wp2_with (go_at_fn fn; refine HCALL.out.mono ?_; rintro e w' ⟨rfl, b1⟩)
        go_roundg (N - (k + 1))
        case measure => have := HK.out; omega
        case rel =>
          refine ⟨k + 1, by omega, by go_num, HB.out.trans (b1.mono HB.out.size), fun j hj hjk => ?_⟩
          by_cases e : j = k
          · subst e
            rw [HU.out]
            exact HQU.out
          · exact HQ.out j hj (by omega)
    · obtain rfl : k = N := by omega
      go_wp2_with fail
      go_ret
      refine ⟨?_, HB.out⟩
      have : L.findIdx? q = none := by
        rw [List.findIdx?_eq_none_iff]
        intro x hx
        obtain ⟨j, hj, rfl⟩ := List.mem_iff_getElem.1 hx
        exact HQ.out j hj (by rw [← HN.out]; exact hj)
      rw [HR0.out, this]
      rfl
theorem u64_zero (w : World) : Sem.run Tryz.prog (zeroValue 22) w = .ok (.int .u64 0) w := by kernel_rfl
theorem u64_sl : Tryz.prog.underlying 66 = some (.slice 22) := Tryz.underlying66
set_option maxHeartbeats 2000000 in
set_option maxRecDepth 100000 in
theorem delf_any (eg : ∀ args w, Sem.run Tryz.prog (callFunc fn args) w = .ok (.enter fn args) w) (h : w.ownsRow B 22 1 (.slice (some ⟨g, 0, none⟩) L.length cap) L.length (idsV L)) (hl : L.length ≤ 1000000) (ht : Tells w g fn lb q L) :
    Calls Tryz.prog 51 #[.slice (some ⟨g, 0, none⟩) L.length cap, .func (.func fn) #[] lb] w fun e w' => e = .returned (.slice (some ⟨g, 0, none⟩) (L.filter fun u => !q u).length cap) ∧ w'.ownsRow B 22 1 (.slice (some ⟨g, 0, none⟩) (L.filter fun u => !q u).length cap) (L.filter fun u => !q u).length (idsV (L.filter fun u => !q u)) ∧ Only (fun z => z = g) w w' := by
  obtain ⟨N, hN⟩ : ∃ N, L.length = N := ⟨_, rfl⟩
  have HI := Lib.hid (idxf_any eg h hl ht)
  have HN := Lib.hid hN
  have HR := Lib.hid h
  have HT := Lib.hid ht
  rw [hN] at h hl HI ⊢
  have hcapN : N ≤ cap := by
    rcases h.2 with ⟨h', _⟩ | ⟨g', cap', cur, h', _, _, hnc, _⟩
    · simp at h'
    · simp only [Value.slice.injEq, Option.some.injEq, Addr.mk.injEq, and_true, true_and] at h'
      omega
  obtain ⟨F, hF⟩ : ∃ F, F = L.filter fun u => !q u := ⟨_, rfl⟩
  rw [← hF]
  have HF := Lib.hid hF
  clear h ht hF hN
  cases hfi : L.findIdx? q with
  | none =>
    rw [hfi] at HI
    have hall : F = L := by
      rw [HF.out, List.filter_eq_self]
      rw [List.findIdx?_eq_none_iff] at hfi
      intro x hx
      rw [hfi x hx]
      rfl
    have HA := Lib.hid hall
    clear hfi hall
    change Hid (Calls _ _ _ _ fun e w' => e = .returned (.int .i64 (-1)) ∧ _) at HI
    go_enter Tryz.func51, Tryz.ntmps51
    go_wp2_with (go_at_call 71; refine HI.out.mono ?_; rintro e w1 ⟨rfl, b1⟩)
    go_ret
    rw [HA.out]
    exact ⟨by rw [HN.out]; rfl, ownsRow_below HR.out b1, Only.of_below b1 _⟩
  | some k =>
    rw [hfi] at HI
    have HFI := Lib.hid hfi
    have hk0 : k < N := by
      rw [List.findIdx?_eq_some_iff_getElem] at hfi
      obtain ⟨h1, _⟩ := hfi
      rw [← HN.out]
      exact h1
    have hne1 : ((k : Int) == -1) = false := beq_eq_false_iff_ne.2 (by omega)
    change Hid (Calls _ _ _ _ fun e w' => e = .returned (.int .i64 (k : Int)) ∧ _) at HI
    clear hfi
    go_enter Tryz.func51, Tryz.ntmps51
    go_wp2_with (go_at_call 71; refine HI.out.mono ?_; rintro e w1 ⟨rfl, b1⟩)
    have HB1 := Lib.hid b1
    clear b1
    go_loopg [5, 6, 7] N (fun r s5 s6 s7 wr => ∃ (i j : Nat) (M : List Nat), s5 = .int .i64 (i : Int) ∧ s6 = .int .i64 (j : Int) ∧ i < j ∧ j ≤ N ∧ N - j ≤ r ∧ M.length = N ∧ M.take i = (L.take j).filter (fun u => !q u) ∧ M.drop j = L.drop j ∧ wr.ownsRow B 22 1 (.slice (some ⟨g, 0, none⟩) N cap) N (idsV M) ∧ Only (fun z => z = g) w wr)
    case atStart =>
      refine ⟨k, k + 1, L, rfl, by go_num, by omega, by omega, by omega, HN.out, ?_, rfl, ?_, Only.of_below HB1.out _⟩
      · have h1 := HFI.out
        rw [List.findIdx?_eq_some_iff_getElem] at h1
        obtain ⟨h2, h3, h4⟩ := h1
        rw [List.take_add_one, List.getElem?_eq_getElem h2, List.filter_append]
        simp only [Option.toList_some, List.filter_cons, h3, Bool.not_true, Bool.false_eq_true, if_false, List.filter_nil, List.append_nil]
        symm
        rw [List.filter_eq_self]
        intro x hx
        obtain ⟨j, hj, rfl⟩ := List.mem_iff_getElem.1 hx
        rw [List.length_take] at hj
        rw [List.getElem_take]
        have := h4 j (by omega)
        simpa using this
      · have := ownsRow_below HR.out HB1.out
        rw [HN.out] at this
        exact this
    case round =>
      obtain ⟨i, j, M, rfl, rfl, hij, hjn, hr, hM, hMt, hMd, hrow, honly⟩ := hrel
      have HML := Lib.hid hM
      have HMT := Lib.hid hMt
      have HMD := Lib.hid hMd
      have HROW := Lib.hid hrow
      have HO := Lib.hid honly
      clear hM hMt hMd hrow honly
      by_cases hlt : j < N
      · have hlt2 : j < L.length := by rw [HN.out]; exact hlt
        have hMj : M[j]? = some L[j] := by
          have h1 : (M.drop j)[0]? = (L.drop j)[0]? := by rw [HMD.out]
          rw [List.getElem?_drop, List.getElem?_drop, Nat.add_zero, List.getElem?_eq_getElem hlt2] at h1
          exact h1
        have hc := HROW.out.cellAt j (by omega)
        rw [List.getElem?_map, hMj] at hc
        change wr.cell? ⟨g, j, none⟩ = some (.int .u64 (L[j] : Int)) at hc
        have hci : ∃ old, wr.cell? ⟨g, i, none⟩ = some old := by
          rw [HROW.out.cellAt i (by omega), List.getElem?_map, List.getElem?_eq_getElem (by rw [HML.out]; omega)]
          exact ⟨_, rfl⟩
        obtain ⟨old, hci⟩ := hci
        have hcall := HT.out wr HO.out L[j] (List.getElem_mem hlt2)
        obtain ⟨u, hu⟩ : ∃ u, L[j] = u := ⟨_, rfl⟩
        rw [hu] at hc hcall
        have HU := Lib.hid hu
        have HCALL := Lib.hid hcall
        clear hu hcall hMj
        have hgl : g < wr.heap.size := (HROW.out.lt g rfl).2
        cases hqu : q u with
        | true =>
          rw [hqu] at HCALL
          have HQU := Lib.hid hqu
          clear hqu hci
          go_wp2_with (go_at_fn fn; refine HCALL.out.mono ?_; rintro e w' ⟨rfl, b1⟩)
          go_roundg (N - (j + 1))
          case measure => omega
          case rel =>
            refine ⟨i, j + 1, M, rfl, by go_num, by omega, by omega, by omega, HML.out, ?_, ?_, ownsRow_below HROW.out b1, HO.out.trans (Only.of_below b1 (fun z => z = g)) (fun _ h => .inl h)⟩
            · rw [HMT.out, List.take_add_one, List.getElem?_eq_getElem hlt2, List.filter_append, HU.out]
              simp [HQU.out]
            · rw [← List.drop_drop, HMD.out, List.drop_drop]
        | false =>
          rw [hqu] at HCALL
          have HQU := Lib.hid hqu
          clear hqu
          go_wp2_with (go_at_fn fn; refine HCALL.out.mono ?_; rintro e w' ⟨rfl, b1⟩; have hci2 := (b1.cell (p := ⟨g, i, none⟩) hgl).trans hci; have hfz := (ownsRow_below HROW.out b1).frozenAt i)
          have HST := Lib.hid ((ownsRow_below HROW.out b1).stored i (.int .u64 (u : Int)))
          have HO2 : Hid (Only (fun z => z = g) w (w'.setCell ⟨g, i, none⟩ (.int .u64 (u : Int)))) := (HO.out.trans (Only.of_below b1 (fun z => z = g)) (fun _ h => .inl h)).setCell1 (g := g) (.inl rfl) i _
          clear hci2 hfz b1
          go_roundg (N - (j + 1))
          case measure => omega
          case rel =>
            refine ⟨i + 1, j + 1, M.set i u, by go_num, by go_num, by omega, by omega, by omega, by rw [List.length_set]; exact HML.out, ?_, ?_, ?_, HO2.out⟩
            · rw [List.take_add_one, List.getElem?_set_self (by rw [HML.out]; omega), List.take_set_of_le (Nat.le_refl _), HMT.out, List.take_add_one, List.getElem?_eq_getElem hlt2, List.filter_append, HU.out]
              simp [HQU.out]
            · rw [List.drop_set_of_lt (by omega), ← List.drop_drop, HMD.out, List.drop_drop]
            · have := HST.out.1
              rw [← List.map_set] at this
              exact this
      · obtain rfl : j = N := by omega
        have hcl : ∀ ty, Sem.run Tryz.prog (Builtin.clear_ #[66] ty #[.slice (some ⟨g, i, none⟩) (j - i) (cap - i)]) wr = .ok (.tuple #[]) (wr.setCells g i (List.replicate (j - i) (.int .u64 0))) :=
          fun ty => Lib.run_clear_slice wr _ _ ty _ u64_sl u64_zero rfl rfl g i _ _ (by omega) (fun t ht => by
            rw [HROW.out.cellAt (i + t) (by omega), List.getElem?_map, List.getElem?_eq_getElem (by rw [HML.out]; omega)]; rfl) (fun t ht => HROW.out.frozenAt _)
        go_wp2
        go_ret
        have hFi : F = M.take i := by
          rw [HF.out, HMT.out, List.take_of_length_le (by rw [HN.out]; exact Nat.le_refl _)]
        have hFl : F.length = i := by rw [hFi, List.length_take, HML.out]; omega
        rw [hFl]
        obtain ⟨ys, y1, y2⟩ := owns_setCells (vs := List.replicate (j - i) (.int .u64 0)) (o := i) HROW.out
        have y3 := owns_cut y1 (i := i) (by omega)
        rw [y2] at y3
        refine ⟨rfl, ?_, HO.out.trans (only_setCells _ _) (fun _ h => .inl h)⟩
        rw [hFi]
        unfold idsV at y3 ⊢
        rw [← List.map_take] at y3
        exact y3
end
end Go.Proofs.YtfpkeinknhijaaaGreat
namespace Go.Proofs.YtfpkeinknhijaaaGreat
set_option linter.unusedVariables false
open Go.RowKit Go.Maps Go.Sort

theorem clos_eg : ∀ args w, Sem.run Tryz.prog (callFunc 53 args) w = .ok (.enter 53 args) w := enters_of Tryz.func53 (by kernel_rfl) rfl
section
variable {w : World} {x tb lb sb : Nat} {most seed R : Int} {n : Nat} {own : Nat → Option Nat} {Rd : Nat → Prop} {lm : List (Nat × (Slc × Slc))} {sm : List (Nat × Slc)} {l0 : Nms} {d : Dx}
set_option maxHeartbeats 1000000 in
set_option maxRecDepth 100000 in
theorem clos_any (h : Ry w x tb lb sb most seed R n own Rd lm sm l0 d) {X : Nat} (hX : w.cell? ⟨X, 0, none⟩ = some (.pointer (some ⟨x, 0, none⟩))) (id : Nat) (hid : id ≤ 18446744073709551615) :
    Calls Tryz.prog 53 #[.int .u64 (id : Int), .pointer (some ⟨X, 0, none⟩)] w fun e w' => e = .returned (.bool (!liveE d.all id)) ∧ Below w.heap.size w w' := by
  have HF := Lib.hid (rvlive_any h id hid)
  generalize liveE d.all id = c at *
  clear h
  go_enter Tryz.func53, Tryz.ntmps53
  go_wp2_with (go_at_call 32; refine HF.out.mono ?_; rintro e w1 ⟨rfl, b1⟩)
  go_ret
  exact ⟨rfl, b1⟩
theorem Iw.right_bad (h : Iw most R d) {t : List UInt8} (hv : validB t = false) : rightX d.all t = [] := by
  rw [rightX_is (fun e he => (tagsB_is (h.len e he).2.2).2.2.2), List.map_eq_nil_iff, List.filter_eq_nil_iff]
  intro e he ht
  unfold hasT at ht
  rw [Bool.and_eq_true, List.contains_iff_mem] at ht
  have := (tagsB_is (h.len e he).2.2).1 t ht.2
  rw [hv] at this
  cases this
theorem Iw.ids64 (h : Ry w x tb lb sb most seed R n own Rd lm sm l0 d) {k u : Nat} (hu : u ∈ ofX d.sl k) : u ≤ 18446744073709551615 := by
  obtain ⟨e, he, e2⟩ := h.iw.sl1 _ (ofX_mem.1 hu)
  have e3 : e.id = u := e2
  rw [← e3]
  exact h.lb64 e he
set_option maxHeartbeats 2000000 in
set_option maxRecDepth 100000 in
theorem rvright_any (h : Ry w x tb lb sb most seed R n own Rd lm sm l0 d) (hn : n ≤ 100000) (s : ByteArray) (hs : s.size ≤ 140737488355328) :
    Calls Tryz.prog 22 #[.pointer (some ⟨x, 0, none⟩), .string s] w (NewRow w 22 (idsV (rightX d.all s.data.toList))) := by
  have HB0 : Hid (Below w.heap.size w (w.alloc (.cells #[.pointer (some ⟨x, 0, none⟩)] 23))) := (Below.refl _ _).alloc (Nat.le_refl _) _
  have h0 := h.below HB0.out
  have hX := (Blk.new w 23 #[.pointer (some ⟨x, 0, none⟩)]).cell 0
  have HF := rvfinds_any h0 s hs
  have hcase : (findM d.nm s.data.toList).2 = 0 ∧ (∃ k : Nat, findM d.nm s.data.toList = ((k : Int), 0) ∧ liveB d.nm k = true ∧ (nmAt d.nm k).1 = s.data.toList) ∨ ((findM d.nm s.data.toList).2 ≠ 0 ∧ rightX d.all s.data.toList = []) := by
    unfold findM
    cases hv : validB s.data.toList
    · right
      exact ⟨by simp, h.iw.right_bad hv⟩
    · rw [if_pos rfl]
      cases hf : findN d.nm s.data.toList with
      | none => exact .inr ⟨by simp, h.iw.right_none hf⟩
      | some k => exact .inl ⟨rfl, k, rfl, (findN_some hf).1, (findN_some hf).2⟩
  rcases hcase with ⟨_, k, hk, hlv, hnm⟩ | ⟨he, hr⟩
  · rw [hk] at HF
    have HF := Lib.hid HF
    have hright := h.iw.right hlv
    have hrne := h.iw.right_ne hlv
    rw [hnm] at hright hrne
    have hk2 : k < 65536 := by have := live_lt hlv; have := h.iw.wf.size; have := h.ms.2; omega
    rw [← hright] at hrne ⊢
    have hne : ofX d.sl k ≠ [] := fun e => hrne (by rw [e]; rfl)
    have hlen : (ofX d.sl k).length ≤ 1000000 := by have := ofX_len d.sl k; have := h.ln.1; omega
    have HIDS := Lib.hid (fun u (hu : u ∈ ofX d.sl k) => Iw.ids64 h hu)
    have HSLC := Lib.hid (fun W (hb : Below w.heap.size w W) => (h.below hb).slc k)
    have HLK := Lib.hid (fun W (hb : Below w.heap.size w W) => lookN (h.below hb).sv.mp hk2)
    have HCE := Lib.hid (fun W (hb : Below w.heap.size w W) => (h.below hb).cells)
    have HCL := Lib.hid (fun (W : World) X (hX : W.cell? ⟨X, 0, none⟩ = some (.pointer (some ⟨x, 0, none⟩))) (hb : Below w.heap.size w W) id hid => clos_any (h.below hb) hX id hid)
    have hpos : 0 < (ofX d.sl k).length := List.length_pos_iff.2 hne
    have HA : Hid (∀ u, (!!liveE d.all u) = liveE d.all u) := fun u => Bool.not_not _
    generalize hA : d.all = A at *
    generalize ofX d.sl k = L at *
    generalize mget slcZ sm k = z at *
    obtain ⟨p1, n1, k1⟩ := z
    clear h h0 hk hlv hright hrne hnm hne hA
    go_enter Tryz.func22, Tryz.ntmps22
    go_wp2_with fail
    refine HF.out.mono ?_
    rintro e w1 ⟨rfl, b1⟩
    have hb1 : Below w.heap.size w w1 := HB0.out.trans (b1.mono HB0.out.size)
    have hX1 := (b1.cell (p := ⟨w.heap.size, 0, none⟩) (by simp)).trans hX
    obtain ⟨d0, d1, d2, d3, d4, d5⟩ := HCE.out w1 hb1
    have hlk := HLK.out w1 hb1
    have HB1 := Lib.hid hb1
    have HX1 := Lib.hid hX1
    have HSZ : Hid (w.heap.size < w1.heap.size) := by have := b1.size; simp at this; exact this
    clear b1 hb1 hX
    go_wp2_with fail
    refine (cloneU_any _ L 0 w1 (HSLC.out w1 HB1.out) hlen).mono ?_
    rintro e w2 ⟨v, rfl, hv, b2⟩
    rw [List.length_map] at hv
    obtain ⟨g, cap, hvf, hg1, hg2⟩ := hv.form hpos
    subst hvf
    have HT : Hid (Tells w2 g 53 #[.pointer (some ⟨w.heap.size, 0, none⟩)] (fun u => !liveE A u) L) := by
      intro W ho u hu
      have hsz := HSZ.out
      have hbW : Below w.heap.size w W := (HB1.out.trans (b2.mono HB1.out.size)).trans (ho.below (fun z hz => by rw [hz]; omega) (Nat.le_trans HB1.out.size b2.size))
      have hXW : W.cell? ⟨w.heap.size, 0, none⟩ = some (.pointer (some ⟨x, 0, none⟩)) := by
        rw [World.cell?_of_block (w := w2) (a := ⟨w.heap.size, 0, none⟩) (ho.block w.heap.size (show w.heap.size < w2.heap.size by have := b2.size; omega) (show ¬ w.heap.size = g by omega))]
        exact (b2.cell (p := ⟨w.heap.size, 0, none⟩) hsz).trans HX1.out
      exact HCL.out W _ hXW hbW u (HIDS.out u hu)
    have HV := Lib.hid hv
    have HB2 := Lib.hid b2
    clear hv b2
    go_wp2_with fail
    refine (delf_any clos_eg HV.out hlen HT.out).mono ?_
    rintro e w3 ⟨rfl, h3, ho3⟩
    have HV3 := Lib.hid h3
    have HO3 := Lib.hid ho3
    simp only [Bool.not_not] at HV3 ⊢
    clear h3 ho3
    go_wp2_with fail
    go_ret
    have hb2 := HB1.out.trans (HB2.out.mono HB1.out.size)
    have hs1 := HB1.out.size
    exact ⟨_, rfl, by rw [List.length_map]; exact ownsRow_low HV3.out hs1, hb2.trans (HO3.out.below (fun z hz => by rw [hz]; omega) hb2.size)⟩
  · rw [hr]
    have hE : ((findM d.nm s.data.toList).2 != 0) = true := by simpa using he
    generalize findM d.nm s.data.toList = z at *
    obtain ⟨z1, z2⟩ := z
    have HF := Lib.hid HF
    clear h h0 hX hr he
    go_enter Tryz.func22, Tryz.ntmps22
    go_wp2_with (go_at_call 49; refine HF.out.mono ?_; rintro e w1 ⟨rfl, b1⟩)
    go_ret
    exact ⟨_, rfl, World.ownsRow_nil _ _ _ _, HB0.out.trans (b1.mono HB0.out.size)⟩
/-- What Next says. -/
def nextI (S : List (Nat × Nat)) (t : Int) : Int × Int := if numB t = true then (match nextX S t.toNat with | some n => ((n : Int), 0) | none => (0, 9)) else (0, 2)
set_option maxHeartbeats 2000000 in
set_option maxRecDepth 100000 in
theorem rvnext_any (h : Ry w x tb lb sb most seed R n own Rd lm sm l0 d) (t : Int) :
    Calls Tryz.prog 55 #[.pointer (some ⟨x, 0, none⟩), .int .i64 t] w fun e w' => e = .returned (.tuple #[.int .i64 (nextI d.sl t).1, .int .i64 (nextI d.sl t).2]) ∧ Below w.heap.size w w' := by
  obtain ⟨d0, d1, d2, d3, d4, d5⟩ := h.cells
  have HC := Lib.hid (rvcheck_any d0 t)
  obtain ⟨z, hz⟩ : ∃ z, nextI d.sl t = z := ⟨_, rfl⟩
  rw [hz]
  obtain ⟨z1, z2⟩ := z
  unfold nextI at hz
  cases ht : numB t
  · rw [ht] at HC hz
    have HZ := Lib.hid hz
    clear h d0 d1 d2 d3 d4 d5 ht hz
    go_enter Tryz.func55, Tryz.ntmps55
    go_wp2_with (go_at_call 67; refine HC.out.mono ?_; rintro e w1 ⟨rfl, rfl⟩)
    go_ret2
    injection HZ.out with z1 z2
    exact ⟨by rw [← z1, ← z2]; rfl, Below.refl _ _⟩
  · rw [ht] at HC hz
    obtain ⟨k, rfl⟩ : ∃ k : Nat, t = k := ⟨t.toNat, by unfold numB at ht; simp at ht; omega⟩
    have hk : k < 65536 := by unfold numB at ht; simp at ht; omega
    have HM := Lib.hid h.sv.mp.1
    have hap := h.sv.mp.apart Tryz.underlying3
    have HAP := Lib.hid hap
    have HAS : Hid (∀ m, m ∈ mkeys sm ↔ ofX d.sl m ≠ []) := fun m => by rw [← mhas_iff, h.sv.has m, decide_eq_true_eq]
    have HLT : Hid (∀ m, ofX d.sl m ≠ [] → m < 65536) := fun m hm => by
      obtain ⟨j, hj⟩ := List.exists_mem_of_ne_nil _ hm
      have h1 : (m : Int) < most := h.iw.nlt _ (ofX_mem.1 hj)
      have h2 := h.ms.2
      omega
    have hbl := h.sv.mp.lt
    rw [if_pos rfl, Int.toNat_natCast] at hz
    obtain ⟨S, hS⟩ : ∃ S, d.sl = S := ⟨_, rfl⟩
    rw [hS] at HAS HLT hz
    have HZ := Lib.hid hz
    clear h hap ht hS d0 d1 d2 d4 d5 hz
    go_enter Tryz.func55, Tryz.ntmps55
    go_wp2_with (first
      | (go_at_call 67; refine HC.out.mono ?_; rintro e w1 ⟨rfl, rfl⟩)
      | (at_range; refine wpList_range_own _ rfl _ 61 rfl 3 66 (int_keyed Tryz.underlying3) Tryz.underlying61 (Rv slcV (fun _ => True)) sb n _ rfl HM.out ?_; intro w0 hrg0 hg0 hs0)
      | go_in)
    go_frame
    go_loopw [7] (fun v wr => ∃ (left : Lit → Bool) (cnt b : Nat), v = .int .i64 (b : Int) ∧ wr.ranges Tryz.prog 3 (Rv slcV (fun _ => True)) sb w.heap.size n (liftM slcV .i64 sm) left cnt ∧ (b = 65536 ∨ (k ≤ b ∧ b ∈ mkeys (doneL .i64 left sm))) ∧ (∀ m ∈ mkeys (doneL .i64 left sm), k ≤ m → b ≤ m) ∧ b ≤ 65536 ∧ Below w.heap.size w wr ∧ w.heap.size + 1 ≤ wr.heap.size)
      (fun _ wr => wr.rangeLeft sb w.heap.size)
    case atStart => exact ⟨_, _, 65536, rfl, hrg0, .inl rfl, (by rw [doneL_start]; intro m hm; cases hm), Nat.le_refl _, (Below.refl _ _).grown hg0 (Nat.le_refl _) (fun k hk => by cases hk), by omega⟩
    case round =>
      obtain ⟨left, cnt, b, rfl, hrg, hb1, hb2, hb3, hbel, hsz⟩ := hrel
      have HRG := Lib.hid hrg
      have HB1 := Lib.hid hb1
      have HB2 := Lib.hid hb2
      have HBEL := Lib.hid hbel
      clear hrg hb1 hb2 hbel
      go_wp2_with (first
        | (at_next; refine wpList_next_v (val := slcV) (q := .i64) (w := wr) rfl _ rfl Tryz.underlying3 w.heap.size left cnt slcZ rfl HRG.out HAP.out slcV_inj ?_ ?_)
        | go_in)
      · intro hdone
        rw [hdone] at HB1 HB2
        by_cases hb : b = 65536
        · subst hb
          have hnx : nextX S k = none := nextX_eqn (fun m hm => by
            apply Classical.byContradiction
            intro hne
            have h1 := HB2.out m ((HAS.out m).2 hne) hm
            have h2 := HLT.out m hne
            omega)
          rw [hnx] at HZ
          clear hdone hnx
          go_wp2_with fail
          go_ret2
          injection HZ.out with z1 z2
          exact ⟨by rw [← z1, ← z2]; rfl, HBEL.out⟩
        · have hnx : nextX S k = some b := by
            rcases HB1.out with h1 | ⟨h1, h2⟩
            · exact absurd h1 hb
            · exact nextX_eq h1 ((HAS.out b).1 h2) (fun m hm hne => HB2.out m ((HAS.out m).2 hne) hm)
          rw [hnx] at HZ
          have hbe : ((b : Int) == 65536) = false := by rw [beq_eq_false_iff_ne]; omega
          clear hdone hnx hb
          go_wp2_with fail
          go_ret2
          injection HZ.out with z1 z2
          exact ⟨by rw [← z1, ← z2]; rfl, HBEL.out⟩
      · intro m c1 c2 c3 w1 left1 cnt1 hmem hperm hrg1 hlt hg1 hs1 hen
        have HR1 := Lib.hid hrg1
        have HBE1 := Lib.hid (HBEL.out.grown hg1 HBEL.out.size (fun j hj => by cases hj; exact Nat.le_refl _))
        have HKS : Hid (∀ j, j ∈ mkeys (doneL .i64 left1 sm) ↔ j = m ∨ j ∈ mkeys (doneL .i64 left sm)) := fun j => by
          have := (hperm.map (·.1)).mem_iff (a := j)
          rw [List.map_cons, List.mem_cons] at this
          exact this
        have HLTT := Lib.hid hlt
        have HLE := Lib.hid (HRG.out.left_eq)
        have hs2 : w.heap.size + 1 ≤ w1.heap.size := by omega
        have hm5 : m < 65536 := HLT.out m ((HAS.out m).1 (List.mem_map.2 ⟨_, hmem, rfl⟩))
        clear hmem hperm hrg1 hg1 hlt HRG HBEL hs1
        have hrl : w1.rangeLeft sb w.heap.size < wr.rangeLeft sb w.heap.size := by rw [HR1.out.left_eq, HLE.out]; exact HLTT.out
        by_cases hkm : k ≤ m
        · have hg : decide ((k : Int) ≤ (m : Int)) = true := decide_eq_true (by omega)
          go_wp2_with fail
          refine ⟨⟨left1, cnt1, min b m, by congr 1; omega, HR1.out, ?_, fun j hj hkj => ?_, by omega, HBE1.out, hs2⟩, hrl⟩
          · by_cases hbm : b ≤ m
            · rw [Nat.min_eq_left hbm]
              rcases HB1.out with h1 | h1
              · exact .inl h1
              · exact .inr ⟨h1.1, (HKS.out b).2 (.inr h1.2)⟩
            · rw [Nat.min_eq_right (by omega)]
              exact .inr ⟨hkm, (HKS.out m).2 (.inl rfl)⟩
          · rcases (HKS.out j).1 hj with rfl | h1
            · omega
            · have := HB2.out j h1 hkj
              omega
        · have hg : decide ((k : Int) ≤ (m : Int)) = false := decide_eq_false (by omega)
          go_wp2_with fail
          refine ⟨⟨left1, cnt1, b, rfl, HR1.out, ?_, fun j hj hkj => ?_, hb3, HBE1.out, hs2⟩, hrl⟩
          · rcases HB1.out with h1 | h1
            · exact .inl h1
            · exact .inr ⟨h1.1, (HKS.out b).2 (.inr h1.2)⟩
          · rcases (HKS.out j).1 hj with rfl | h1
            · omega
            · exact HB2.out j h1 hkj
end
end Go.Proofs.YtfpkeinknhijaaaGreat
