/- An index of entries in memory; the small calls. -/
import Derived.Test.YthngkimncdpekaaRevR
import Derived.Test.YthngkimncdpekaaMapI
import Derived.Test.YthngkimncdpekaaIntC
import Derived.Deep.LoopGhost
import Derived.Deep.QuietTactic
import Derived.BigQuiet
import Derived.StillTailTactics
import Derived.Lib.Hide
namespace Go.Proofs.Ythngkimncdpekaa
set_option linter.unusedVariables false
open Go.RowKit Go.Maps Go.Sort

abbrev Slc := Option Addr × Nat × Nat
abbrev slcV (s : Slc) : Value := .slice s.1 s.2.1 s.2.2
theorem slcV_inj : ∀ x y : Slc, slcV x = slcV y → x = y := fun ⟨a, b, c⟩ ⟨d, e, f⟩ h => by
  injection h with h1 h2 h3
  simp only at h1 h2 h3
  rw [h1, h2, h3]
abbrev entV (s : Slc × Slc) : Value := .agg #[slcV s.1, slcV s.2]
theorem entV_inj : ∀ x y : Slc × Slc, entV x = entV y → x = y := fun ⟨a, b⟩ ⟨d, e⟩ h => by
  injection h with h1
  injection h1 with h1
  injection h1 with h1 h2
  injection h2 with h2
  rw [show a = d from slcV_inj _ _ h1, show b = e from slcV_inj _ _ h2]
def slcZ : Slc := (none, 0, 0)
def entZ : Slc × Slc := (slcZ, slcZ)
abbrev MapL (w : World) (b n : Nat) (m : List (Nat × (Slc × Slc))) : Prop := World.mapv entV .u64 w Try.prog 29 (fun _ => True) b n m
abbrev MapN (w : World) (b n : Nat) (m : List (Nat × Slc)) : Prop := World.mapv slcV .i64 w Try.prog 3 (fun _ => True) b n m
theorem mapv_turn {α : Type} {val : α → Value} {q : IntKind} {w w' : World} {P : Program} {kt : TypeId} {ok : α → Prop} {b n : Nat} {m : List (Nat × α)} (h : World.mapv val q w P kt ok b n m) (he : w'.heap[b]? = w.heap[b]?) : World.mapv val q w' P kt ok b n m := by
  obtain ⟨⟨es, clock, hb, Ft, hs, hD⟩, q2⟩ := h
  exact ⟨⟨es, clock, he.trans hb, Ft, hs, hD⟩, q2⟩
abbrev idsV (l : List Nat) : List Value := l.map fun n : Nat => Value.int .u64 (n : Int)
abbrev numsV (l : List Nat) : List Value := l.map fun n : Nat => Value.int .i64 (n : Int)
/-- A row that is read and never written: its block lies in Rd. -/
structure Ro (w : World) (Rd : Nat → Prop) (v : Value) (xs : List Value) : Prop where
  rd : Reads w v xs
  blk : ∀ g, v.ownBlock = some g → Rd g
/-- The live entries in memory. -/
structure Lv (w : World) (lb n : Nat) (Rd : Nat → Prop) (lm : List (Nat × (Slc × Slc))) (A : List En) : Prop where
  mp : MapL w lb n lm
  has : ∀ id, mhas lm id = liveE A id
  at_ : ∀ e ∈ A, e.live = true → Ro w Rd (slcV (mget entZ lm e.id).1) (e.tags.map encStr) ∧ Ro w Rd (slcV (mget entZ lm e.id).2) (numsV e.nums)
/-- The slots in memory: own says of which number a row is (k + 4: of the number k). -/
structure Sv (w : World) (sb n : Nat) (own : Nat → Option Nat) (sm : List (Nat × Slc)) (S : List (Nat × Nat)) : Prop where
  mp : MapN w sb n sm
  has : ∀ k, mhas sm k = decide (ofX S k ≠ [])
  at_ : ∀ k, ofX S k ≠ [] → w.ownsRow 0 29 1 (slcV (mget slcZ sm k)) (ofX S k).length (idsV (ofX S k)) ∧ ∀ g, (slcV (mget slcZ sm k)).ownBlock = some g → own g = some (k + 4)
/-- The names in memory. -/
def Tv (w : World) (tb : Nat) (own : Nat → Option Nat) (most seed : Int) (l0 : Nms) : Prop := ∃ Ot, Tab w tb Ot most seed l0 ∧ ∀ g, Ot g → own g = some 3
/-- An index in memory: own says what each of its own blocks is (0 the index, 1 the map of entries, 2 the map of slots, 3 the table of names, k + 4 the slots of the number k); Rd: the blocks that are read. -/
structure Ry (w : World) (x tb lb sb : Nat) (most seed R : Int) (n : Nat) (own : Nat → Option Nat) (Rd : Nat → Prop) (lm : List (Nat × (Slc × Slc))) (sm : List (Nat × Slc)) (l0 : Nms) (d : Dx) : Prop where
  bk : Blk w x 74 #[.pointer (some ⟨tb, 0, none⟩), .int .u64 (lastE d.all : Int), .map (some lb), .map (some sb), .int .i64 (d.sl.length : Int), .int .i64 (wrongX d.all d.sl : Int)]
  tab : Tv w tb own most seed l0
  nq : Nq l0 d.nm
  wf : Wf most R l0
  lv : Lv w lb n Rd lm d.all
  sv : Sv w sb n own sm d.sl
  ox : own x = some 0
  ol : own lb = some 1
  os : own sb = some 2
  olt : ∀ g k, own g = some k → g < w.heap.size
  rd : ∀ g, Rd g → own g = none ∧ g < w.heap.size
  iw : Iw most R d
  ln : d.sl.length ≤ n ∧ d.all.length ≤ n
  ms : 1 ≤ most ∧ most ≤ 65536
  lb64 : ∀ e ∈ d.all, e.id ≤ 18446744073709551615
section
variable {w w' : World} {x tb lb sb : Nat} {most seed R : Int} {n : Nat} {own : Nat → Option Nat} {Rd : Nat → Prop} {lm : List (Nat × (Slc × Slc))} {sm : List (Nat × Slc)} {l0 : Nms} {d : Dx}
theorem Ro.only {S : Nat → Prop} {v : Value} {xs : List Value} (h : Ro w Rd v xs) (ho : Only S w w') (hn : ∀ g, Rd g → ¬ S g) : Ro w' Rd v xs := ⟨h.rd.only_ ho (fun g hg => hn g (h.blk g hg)), h.blk⟩
theorem Lv.only {A : List En} {S : Nat → Prop} (h : Lv w lb n Rd lm A) (ho : Only S w w') (h1 : ¬ S lb) (hn : ∀ g, Rd g → ¬ S g) : Lv w' lb n Rd lm A :=
  ⟨mapv_turn h.mp (ho.block lb h.mp.lt h1), h.has, fun e he hl => ⟨(h.at_ e he hl).1.only ho hn, (h.at_ e he hl).2.only ho hn⟩⟩
theorem Sv.only {T : List (Nat × Nat)} {S : Nat → Prop} (h : Sv w sb n own sm T) (ho : Only S w w') (h1 : ¬ S sb) (hn : ∀ g k, own g = some (k + 4) → ¬ S g) : Sv w' sb n own sm T :=
  ⟨mapv_turn h.mp (ho.block sb h.mp.lt h1), h.has, fun k hk => ⟨ownsRow_only (h.at_ k hk).1 ho (fun g hg => hn g k ((h.at_ k hk).2 g hg)), (h.at_ k hk).2⟩⟩
theorem Tv.only {S : Nat → Prop} (h : Tv w tb own most seed l0) (ho : Only S w w') (hn : ∀ g, own g = some 3 → ¬ S g) : Tv w' tb own most seed l0 := by
  obtain ⟨Ot, h1, h2⟩ := h
  exact ⟨Ot, h1.only ho (fun g hg => hn g (h2 g hg)), h2⟩
theorem Ry.only {S : Nat → Prop} (h : Ry w x tb lb sb most seed R n own Rd lm sm l0 d) (ho : Only S w w') (hn : ∀ g, own g ≠ none ∨ Rd g → ¬ S g) : Ry w' x tb lb sb most seed R n own Rd lm sm l0 d :=
  ⟨h.bk.only ho (hn x (.inl (by rw [h.ox]; simp))), h.tab.only ho (fun g hg => hn g (.inl (by rw [hg]; simp))), h.nq, h.wf, h.lv.only ho (hn lb (.inl (by rw [h.ol]; simp))) (fun g hg => hn g (.inr hg)), h.sv.only ho (hn sb (.inl (by rw [h.os]; simp))) (fun g k hg => hn g (.inl (by rw [hg]; simp))),
    h.ox, h.ol, h.os, fun g k hg => Nat.lt_of_lt_of_le (h.olt g k hg) ho.size, fun g hg => ⟨(h.rd g hg).1, Nat.lt_of_lt_of_le (h.rd g hg).2 ho.size⟩, h.iw, h.ln, h.ms, h.lb64⟩
theorem Ry.below (h : Ry w x tb lb sb most seed R n own Rd lm sm l0 d) (hb : Below w.heap.size w w') : Ry w' x tb lb sb most seed R n own Rd lm sm l0 d := h.only (Only.of_below hb (fun _ => False)) (fun _ _ h => h)
theorem Ry.cells (h : Ry w x tb lb sb most seed R n own Rd lm sm l0 d) : w.cell? ⟨x, 0, none⟩ = some (.pointer (some ⟨tb, 0, none⟩)) ∧ w.cell? ⟨x, 1, none⟩ = some (.int .u64 (lastE d.all : Int)) ∧ w.cell? ⟨x, 2, none⟩ = some (.map (some lb)) ∧ w.cell? ⟨x, 3, none⟩ = some (.map (some sb)) ∧ w.cell? ⟨x, 4, none⟩ = some (.int .i64 (d.sl.length : Int)) ∧ w.cell? ⟨x, 5, none⟩ = some (.int .i64 (wrongX d.all d.sl : Int)) :=
  ⟨Blk.cell h.bk 0, Blk.cell h.bk 1, Blk.cell h.bk 2, Blk.cell h.bk 3, Blk.cell h.bk 4, Blk.cell h.bk 5⟩
end
/-- An index in memory, by the document's: O its own blocks, Rd those that it reads. -/
def Ri (w : World) (x : Nat) (most seed R : Int) (n : Nat) (O Rd : Nat → Prop) (d : Dx) : Prop :=
  ∃ tb lb sb own lm sm l0, Ry w x tb lb sb most seed R n own Rd lm sm l0 d ∧ ∀ g, O g ↔ own g ≠ none
theorem wf_u64 {t : Nat} (h : t ≤ 18446744073709551615) : (Lit.int .u64 (t : Int)).wf = true := by
  have h1 : IntKind.u64.min = 0 := by decide
  have h2 : IntKind.u64.max = 18446744073709551615 := by decide
  show (decide (IntKind.u64.min ≤ (t : Int)) && decide ((t : Int) ≤ IntKind.u64.max)) = true
  rw [h1, h2, Bool.and_eq_true, decide_eq_true_eq, decide_eq_true_eq]
  omega
theorem wf_i64 {t : Nat} (h : t < 9223372036854775808) : (Lit.int .i64 (t : Int)).wf = true := by
  have h1 : IntKind.i64.min = -9223372036854775808 := by decide
  have h2 : IntKind.i64.max = 9223372036854775807 := by decide
  show (decide (IntKind.i64.min ≤ (t : Int)) && decide ((t : Int) ≤ IntKind.i64.max)) = true
  rw [h1, h2, Bool.and_eq_true, decide_eq_true_eq, decide_eq_true_eq]
  omega
theorem ent_zero (W : World) : (zeroValue 118).run Try.prog W = .ok (entV entZ) W := by kernel_rfl
theorem slc_zero (W : World) : (zeroValue 85).run Try.prog W = .ok (slcV slcZ) W := by kernel_rfl
theorem lookL {w : World} {b n : Nat} {m : List (Nat × (Slc × Slc))} (h : MapL w b n m) {t : Nat} (ht : t ≤ 18446744073709551615) :
    Sem.run Try.prog (Instr.lookup 71 (.map (some b)) (.int .u64 (t : Int)) true) w = .ok (.tuple #[entV (mget entZ m t), .bool (mhas m t)]) w :=
  h.lookOk Try.underlying29 Try.underlying71 trivial (ent_zero w) (wf_u64 ht)
theorem lookN {w : World} {b n : Nat} {m : List (Nat × Slc)} (h : MapN w b n m) {t : Nat} (ht : t < 65536) :
    Sem.run Try.prog (Instr.lookup 72 (.map (some b)) (.int .i64 (t : Int)) false) w = .ok (slcV (mget slcZ m t)) w :=
  h.lookup Try.underlying3 Try.underlying72 trivial (slc_zero w) (wf_i64 (by omega))
set_option maxHeartbeats 1000000 in
theorem rvnone_nil (w : World) : Calls Try.prog 55 #[.pointer none] w fun e w' => e = .returned (.bool true) ∧ w = w' := by
  go_enter Try.func55, Try.ntmps55
  go_wp2
  go_ret
  exact ⟨rfl, rfl⟩
set_option maxHeartbeats 1000000 in
set_option maxRecDepth 100000 in
theorem rvnone_zero {w : World} {x : Nat} (c0 : w.cell? ⟨x, 0, none⟩ = some (.pointer none)) : Calls Try.prog 55 #[.pointer (some ⟨x, 0, none⟩)] w fun e w' => e = .returned (.bool true) ∧ w = w' := by
  go_enter Try.func55, Try.ntmps55
  go_wp2
  go_ret
  exact ⟨rfl, rfl⟩
set_option maxHeartbeats 1000000 in
set_option maxRecDepth 100000 in
theorem rvnone_no {w : World} {x tb : Nat} (c0 : w.cell? ⟨x, 0, none⟩ = some (.pointer (some ⟨tb, 0, none⟩))) : Calls Try.prog 55 #[.pointer (some ⟨x, 0, none⟩)] w fun e w' => e = .returned (.bool false) ∧ w = w' := by
  go_enter Try.func55, Try.ntmps55
  go_wp2
  go_ret
  exact ⟨rfl, rfl⟩
set_option maxHeartbeats 1000000 in
set_option maxRecDepth 100000 in
theorem rvcheck_any {w : World} {x tb : Nat} (c0 : w.cell? ⟨x, 0, none⟩ = some (.pointer (some ⟨tb, 0, none⟩))) (t : Int) :
    Calls Try.prog 73 #[.pointer (some ⟨x, 0, none⟩), .int .i64 t] w fun e w' => e = .returned (.int .i64 (if numB t = true then 0 else 2)) ∧ w = w' := by
  have HN := Lib.hid (rvnone_no c0)
  have HT := Lib.hid (show numB t = (decide (0 ≤ t) && decide (t < 65536)) from rfl)
  generalize numB t = T at *
  clear c0
  cases T
  · have H2 : Hid (t < 0 ∨ 65536 ≤ t) := by
      unfold Hid
      have := HT.out.symm
      rw [Bool.and_eq_false_iff, decide_eq_false_iff_not, decide_eq_false_iff_not] at this
      omega
    go_enter Try.func73, Try.ntmps73
    go_wp2_with (go_at_call 55; refine HN.out.mono ?_; rintro e w1 ⟨rfl, rfl⟩)
    all_goals first
      | (go_ret; exact ⟨rfl, rfl⟩)
      | (exfalso; have := H2.out; omega)
  · have H2 : Hid (0 ≤ t ∧ t < 65536) := by
      unfold Hid
      have := HT.out.symm
      rw [Bool.and_eq_true, decide_eq_true_eq, decide_eq_true_eq] at this
      exact this
    go_enter Try.func73, Try.ntmps73
    go_wp2_with (go_at_call 55; refine HN.out.mono ?_; rintro e w1 ⟨rfl, rfl⟩)
    all_goals first
      | (go_ret; exact ⟨rfl, rfl⟩)
      | (exfalso; have := H2.out; omega)
section
variable {w : World} {x tb lb sb : Nat} {most seed R : Int} {n : Nat} {own : Nat → Option Nat} {Rd : Nat → Prop} {lm : List (Nat × (Slc × Slc))} {sm : List (Nat × Slc)} {l0 : Nms} {d : Dx}
set_option maxHeartbeats 1000000 in
set_option maxRecDepth 100000 in
theorem rvfind_no (h : Ry w x tb lb sb most seed R n own Rd lm sm l0 d) (id : Nat) (hid : id ≤ 18446744073709551615) (hl : liveE d.all id = false) :
    Calls Try.prog 63 #[.pointer (some ⟨x, 0, none⟩), .int .u64 (id : Int)] w fun e w' => e = .returned (.tuple #[.agg #[.slice none 0 0, .slice none 0 0], .int .i64 9]) ∧ Below w.heap.size w w' := by
  have HN := Lib.hid (fun W => @rvnone_no W x tb)
  have HB : Hid (Below w.heap.size w (w.alloc (.cells #[.slice none 0 0, .slice none 0 0] 118))) := (Below.refl _ _).alloc (Nat.le_refl _) _
  have h2 := h.below HB.out
  obtain ⟨d0, d1, d2, d3, d4, d5⟩ := h2.cells
  have hk := lookL h2.lv.mp hid
  rw [h.lv.has, hl] at hk
  generalize mget entZ lm id = z at hk
  obtain ⟨⟨p1, n1, k1⟩, ⟨p2, n2, k2⟩⟩ := z
  clear h h2 hl d1 d3 d4 d5
  go_enter Try.func63, Try.ntmps63
  go_wp2_with (go_at_call 55; refine (HN.out _ (by assumption)).mono ?_; rintro e w1 ⟨rfl, rfl⟩)
  refine bodyPost_ret (v := .tuple #[.agg #[.slice none 0 0, .slice none 0 0], .int .i64 9]) (by simp [results, Try.results63, go_sem]) rfl ⟨rfl, HB.out.alloc (by simp) _⟩
set_option maxHeartbeats 1000000 in
set_option maxRecDepth 100000 in
theorem rvfind_yes (h : Ry w x tb lb sb most seed R n own Rd lm sm l0 d) (id : Nat) (hid : id ≤ 18446744073709551615) (hl : liveE d.all id = true) :
    Calls Try.prog 63 #[.pointer (some ⟨x, 0, none⟩), .int .u64 (id : Int)] w fun e w' => e = .returned (.tuple #[entV (mget entZ lm id), .int .i64 0]) ∧ Below w.heap.size w w' := by
  have HN := Lib.hid (fun W => @rvnone_no W x tb)
  have HB : Hid (Below w.heap.size w (w.alloc (.cells #[.slice none 0 0, .slice none 0 0] 118))) := (Below.refl _ _).alloc (Nat.le_refl _) _
  have h2 := h.below HB.out
  obtain ⟨d0, d1, d2, d3, d4, d5⟩ := h2.cells
  have hk := lookL h2.lv.mp hid
  rw [h.lv.has, hl] at hk
  generalize mget entZ lm id = z at hk ⊢
  obtain ⟨⟨p1, n1, k1⟩, ⟨p2, n2, k2⟩⟩ := z
  clear h h2 hl d1 d3 d4 d5
  go_enter Try.func63, Try.ntmps63
  go_wp2_with (go_at_call 55; refine (HN.out _ (by assumption)).mono ?_; rintro e w1 ⟨rfl, rfl⟩)
  refine bodyPost_ret (v := .tuple #[.agg #[.slice p1 n1 k1, .slice p2 n2 k2], .int .i64 0]) (by simp [results, Try.results63, go_sem]) rfl ⟨rfl, ((Below.refl _ _).alloc (Nat.le_refl _) _).alloc (by simp) _⟩
set_option maxHeartbeats 1000000 in
set_option maxRecDepth 100000 in
theorem rvsizes_any (h : Ry w x tb lb sb most seed R n own Rd lm sm l0 d) :
    Calls Try.prog 24 #[.pointer (some ⟨x, 0, none⟩)] w fun e w' => e = .returned (.tuple #[.int .i64 (d.sl.length : Int), .int .i64 (wrongX d.all d.sl : Int)]) ∧ Below w.heap.size w w' := by
  have HN := Lib.hid (fun W => @rvnone_no W x tb)
  obtain ⟨d0, d1, d2, d3, d4, d5⟩ := h.cells
  clear h d1 d2 d3
  go_enter Try.func24, Try.ntmps24
  go_wp2_with (go_at_call 55; refine (HN.out _ (by assumption)).mono ?_; rintro e w1 ⟨rfl, rfl⟩)
  go_quiet (fail)
  go_wp2_with fail
  go_ret2
  exact ⟨rfl, below_drewN (Below.refl _ _) _⟩
theorem names_nq {l l' : Nms} (h : Nq l l') : namesL l = namesL l' := by unfold namesL liveTexts; rw [h.filter]
set_option maxHeartbeats 1000000 in
set_option maxRecDepth 100000 in
theorem rvfinds_any (h : Ry w x tb lb sb most seed R n own Rd lm sm l0 d) (s : ByteArray) (hs : s.size ≤ 140737488355328) :
    Calls Try.prog 51 #[.pointer (some ⟨x, 0, none⟩), .string s] w fun e w' => e = .returned (.tuple #[.int .i64 (findM d.nm s.data.toList).1, .int .i64 (findM d.nm s.data.toList).2]) ∧ Below w.heap.size w w' := by
  have HN := Lib.hid (fun W => @rvnone_no W x tb)
  obtain ⟨d0, d1, d2, d3, d4, d5⟩ := h.cells
  obtain ⟨Ot, ht, _⟩ := h.tab
  have HF := tfind_any ht h.ms.1 h.wf s hs
  rw [h.nq.findM h.wf.dist] at HF
  have HF := Lib.hid HF
  clear h d1 d2 d3 d4 d5 ht
  go_enter Try.func51, Try.ntmps51
  go_wp2_with (first
    | (go_at_call 55; refine (HN.out _ (by assumption)).mono ?_; rintro e w1 ⟨rfl, rfl⟩)
    | (go_at_call 81; refine HF.out.mono ?_; rintro e w1 ⟨rfl, b1⟩))
  go_ret2
  exact ⟨rfl, b1⟩
set_option maxHeartbeats 1000000 in
set_option maxRecDepth 100000 in
theorem rvroom_any (h : Ry w x tb lb sb most seed R n own Rd lm sm l0 d) :
    Calls Try.prog 80 #[.pointer (some ⟨x, 0, none⟩)] w fun e w' => e = .returned (.tuple #[.int .i64 (liveN d.nm), .int .i64 most]) ∧ Below w.heap.size w w' := by
  have HN := Lib.hid (fun W => @rvnone_no W x tb)
  obtain ⟨d0, d1, d2, d3, d4, d5⟩ := h.cells
  obtain ⟨Ot, ht, _⟩ := h.tab
  have HF := len_any ht h.ms.1
  rw [h.nq.liveN] at HF
  have HF := Lib.hid HF
  clear h d1 d2 d3 d4 d5 ht
  go_enter Try.func80, Try.ntmps80
  go_wp2_with (first
    | (go_at_call 55; refine (HN.out _ (by assumption)).mono ?_; rintro e w1 ⟨rfl, rfl⟩)
    | (go_at_call 99; refine HF.out.mono ?_; rintro e w1 ⟨rfl, b1⟩))
  go_ret2
  exact ⟨rfl, b1⟩
set_option maxHeartbeats 1000000 in
set_option maxRecDepth 100000 in
theorem rvknown_any (h : Ry w x tb lb sb most seed R n own Rd lm sm l0 d) :
    Calls Try.prog 40 #[.pointer (some ⟨x, 0, none⟩)] w (NamesP w d.nm) := by
  have HN := Lib.hid (fun W => @rvnone_no W x tb)
  obtain ⟨d0, d1, d2, d3, d4, d5⟩ := h.cells
  obtain ⟨Ot, ht, _⟩ := h.tab
  have HF := names_any ht h.ms.1
  unfold NamesP at HF
  rw [names_nq h.nq] at HF
  change Calls _ _ _ _ (NamesP w d.nm) at HF
  have HF := Lib.hid HF
  clear h d1 d2 d3 d4 d5 ht
  go_enter Try.func40, Try.ntmps40
  go_wp2_with (first
    | (go_at_call 55; refine (HN.out _ (by assumption)).mono ?_; rintro e w1 ⟨rfl, rfl⟩)
    | (go_at_call 76; refine HF.out.mono ?_; rintro e w1 ⟨v, rfl, hv, b1⟩))
  go_ret
  exact ⟨v, rfl, hv, b1⟩
set_option maxHeartbeats 1000000 in
set_option maxRecDepth 100000 in
theorem rvlive_any (h : Ry w x tb lb sb most seed R n own Rd lm sm l0 d) (id : Nat) (hid : id ≤ 18446744073709551615) :
    Calls Try.prog 38 #[.pointer (some ⟨x, 0, none⟩), .int .u64 (id : Int)] w fun e w' => e = .returned (.bool (liveE d.all id)) ∧ Below w.heap.size w w' := by
  cases hl : liveE d.all id
  · have HF := Lib.hid (rvfind_no h id hid hl)
    clear h hl
    go_enter Try.func38, Try.ntmps38
    go_wp2_with (go_at_call 63; refine HF.out.mono ?_; rintro e w1 ⟨rfl, b1⟩)
    go_ret
    exact ⟨rfl, b1.alloc b1.size _⟩
  · have HF := Lib.hid (rvfind_yes h id hid hl)
    clear h hl
    go_enter Try.func38, Try.ntmps38
    go_wp2_with (go_at_call 63; refine HF.out.mono ?_; rintro e w1 ⟨rfl, b1⟩)
    go_ret
    exact ⟨rfl, b1.alloc b1.size _⟩
end
end Go.Proofs.Ythngkimncdpekaa
