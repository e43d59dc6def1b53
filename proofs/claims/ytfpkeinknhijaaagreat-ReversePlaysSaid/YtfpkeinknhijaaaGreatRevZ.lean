/- The law's is, layer 18. -/
import Derived.Test.YtfpkeinknhijaaaGreatDixN
import Derived.Test.YtfpkeinknhijaaaGreatRevOf
import Derived.Test.YtfpkeinknhijaaaGreatQClass
import Derived.Test.YtfpkeinknhijaaaGreatRefC
import Derived.Deep.RegionHeld3
import Derived.Deep.DeepCutAuto
namespace Go.Proofs.YtfpkeinknhijaaaGreat
set_option linter.unusedVariables false
open Go.RowKit Go.Maps Go.Sort

theorem Kr.ryx {V w : World} {S : Nat → Prop} {x : Nat} {most seed R : Int} {n : Nat} {d : Dx} (k : Kr V w S x most seed R n d) : ∃ tb lb sb own Rd lm sm l0, Ry w x tb lb sb most seed R n own Rd lm sm l0 d := by
  obtain ⟨O, Rd, ⟨tb, lb, sb, own, lm, sm, l0, h1, -⟩, -⟩ := k
  exact ⟨tb, lb, sb, own, Rd, lm, sm, l0, h1⟩
/-- While is runs: the index, the document's in its blocks, and the boxes X0 (index) and A0 (call). -/
structure Isx (V W w : World) (S P : Nat → Prop) (x : Nat) (most seed R : Int) (n : Nat) (d : Dx) (a : Dp) (X0 A0 : Nat) (av : Array Value) (z : Option (Nat × TypeId × Array Value)) : Prop where
  kr : Kr V w (fun g => S g ∨ g = X0 ∨ g = A0) x most seed R n d
  dx : Dix w P d a
  bx : Blk w X0 35 (dixCs most d a)
  ba : Blk w A0 38 av
  bz : ∀ Z, z = some Z → Blk w Z.1 Z.2.1 Z.2.2 ∧ S Z.1
  sp : ∀ g, P g → S g
  only : Only (fun g => ¬ S g ∧ V.heap.size ≤ g) W w
section
variable {V W w w' : World} {S P : Nat → Prop} {x : Nat} {most seed R : Int} {n : Nat} {d : Dx} {a : Dp} {X0 A0 : Nat} {av : Array Value} {z : Option (Nat × TypeId × Array Value)}
theorem Isx.below (h : Isx V W w S P x most seed R n d a X0 A0 av z) (hb : Below w.heap.size w w') : Isx V W w' S P x most seed R n d a X0 A0 av z :=
  ⟨h.kr.quiet hb, h.dx.below hb, h.bx.below hb h.bx.lt, h.ba.below hb h.ba.lt, fun Z hZ => ⟨(h.bz Z hZ).1.below hb (h.bz Z hZ).1.lt, (h.bz Z hZ).2⟩, h.sp, h.only.trans (Only.of_below hb (fun _ => False)) (fun g h => h.elim)⟩
theorem Isx.prog (h : Isx V W w S P x most seed R n d a X0 A0 av z) {e : Ending} (hp : KrP V w (fun g => S g ∨ g = X0 ∨ g = A0) x most seed R n d e w') : e = .returned (.bool true) ∧ Isx V W w' S P x most seed R n d a X0 A0 av z := by
  obtain ⟨rfl, k, ho⟩ := hp
  exact ⟨rfl, k, h.dx.only ho (fun g hg he => he.1 (.inl (h.sp g hg))), h.bx.only ho (fun he => he.1 (.inr (.inl rfl))), h.ba.only ho (fun he => he.1 (.inr (.inr rfl))), fun Z hZ => ⟨(h.bz Z hZ).1.only ho (fun he => he.1 (.inl (h.bz Z hZ).2)), (h.bz Z hZ).2⟩, h.sp, h.only.trans ho (fun g hg => .inl ⟨fun hs => hg.1 (.inl hs), hg.2⟩)⟩
theorem Isx.cells (h : Isx V W w S P x most seed R n d a X0 A0 av z) : w.cell? ⟨X0, 0, none⟩ = some (.int .i64 most) ∧ w.cell? ⟨X0, 1, none⟩ = some (.slice a.p d.nm.length a.c) ∧ w.cell? ⟨X0, 2, none⟩ = some (.slice a.pA d.all.length a.cA) ∧ w.cell? ⟨X0, 3, none⟩ = some (.slice a.pS d.sl.length a.cS) := by
  have d0 := Blk.cell h.bx 0
  have d1 := Blk.cell h.bx 1
  have d2 := Blk.cell h.bx 2
  have d3 := Blk.cell h.bx 3
  simp only [List.getElem?_toArray, List.getElem?_cons_zero, List.getElem?_cons_succ] at d0 d1 d2 d3
  exact ⟨d0, d1, d2, d3⟩
/-- What is answered, and what stays. -/
def IsP (V W : World) (S P : Nat → Prop) (x : Nat) (most seed R : Int) (n : Nat) (d : Dx) (a : Dp) (X0 A0 : Nat) (av : Array Value) (z : Option (Nat × TypeId × Array Value)) (v : Value) (e : Ending) (w' : World) : Prop := e = .returned v ∧ Isx V W w' S P x most seed R n d a X0 A0 av z
theorem Isx.wrong (h : Isx V W w S P x most seed R n d a X0 A0 av z) (hn : n ≤ 100000) : Calls Tryz.prog 29 #[.agg #[.int .i64 most, .slice a.p d.nm.length a.c, .slice a.pA d.all.length a.cA, .slice a.pS d.sl.length a.cS]] w (IsP V W S P x most seed R n d a X0 A0 av z (.int .i64 (wrongX d.all d.sl : Int))) := by
  have hf := h.kr.facts
  refine (xwrong_any h.dx most (by omega) (by omega)).mono ?_
  rintro e w' ⟨rfl, hb⟩
  exact ⟨rfl, h.below hb⟩
theorem Isx.sizes (h : Isx V W w S P x most seed R n d a X0 A0 av z) : Calls Tryz.prog 23 #[.pointer (some ⟨x, 0, none⟩), .int .i64 (d.sl.length : Int), .int .i64 (wrongX d.all d.sl : Int)] w (IsP V W S P x most seed R n d a X0 A0 av z (.bool true)) := (h.kr.sizes rfl rfl).mono fun e w' hp => h.prog hp
theorem Isx.len (h : Isx V W w S P x most seed R n d a X0 A0 av z) (hl : d.nm.length ≤ 100000) : Calls Tryz.prog 30 #[.agg #[.int .i64 most, .slice a.p d.nm.length a.c]] w (IsP V W S P x most seed R n d a X0 A0 av z (.int .i64 (liveN d.nm : Int))) := by
  refine (rlen_any h.dx.names hl most).mono ?_
  rintro e w' ⟨rfl, hb⟩
  exact ⟨rfl, h.below hb⟩
theorem Isx.room (h : Isx V W w S P x most seed R n d a X0 A0 av z) : Calls Tryz.prog 28 #[.pointer (some ⟨x, 0, none⟩), .int .i64 (liveN d.nm : Int), .int .i64 most] w (IsP V W S P x most seed R n d a X0 A0 av z (.bool true)) := (h.kr.rooms rfl).mono fun e w' hp => h.prog hp
/-- Known of the index. -/
theorem Isx.known (h : Isx V W w S P x most seed R n d a X0 A0 av z) : Calls Tryz.prog 25 #[.pointer (some ⟨x, 0, none⟩)] w fun e w' => ∃ q c, IsP V W S P x most seed R n d a X0 A0 av z (.slice q (namesL d.nm).length c) e w' ∧ w'.ownsRow w.heap.size 9 1 (.slice q (namesL d.nm).length c) (namesL d.nm).length ((namesL d.nm).map encStr) := by
  obtain ⟨tb, lb, sb, own, Rd, lm, sm, l0, hry⟩ := h.kr.ryx
  refine (rvknown_any hry).mono ?_
  rintro e w' ⟨v, rfl, h2, h3⟩
  obtain ⟨q, c, rfl⟩ := owns_form h2
  exact ⟨q, c, ⟨rfl, h.below h3⟩, h2⟩
/-- Names of the document's table, beside a row. -/
theorem Isx.names (h : Isx V W w S P x most seed R n d a X0 A0 av z) (hl : d.nm.length ≤ 100000) : Calls Tryz.prog 31 #[.agg #[.int .i64 most, .slice a.p d.nm.length a.c]] w fun e w' => ∃ q c, IsP V W S P x most seed R n d a X0 A0 av z (.slice q (namesL d.nm).length c) e w' ∧ w'.ownsRow w.heap.size 9 1 (.slice q (namesL d.nm).length c) (namesL d.nm).length ((namesL d.nm).map encStr) ∧ Below w.heap.size w w' := by
  refine (rnames_any h.dx.names hl most).mono ?_
  rintro e w' ⟨q, c, rfl, h2, h3⟩
  exact ⟨q, c, ⟨rfl, h.below h3⟩, h2, h3⟩
theorem Isx.live (h : Isx V W w S P x most seed R n d a X0 A0 av z) (id : Nat) (hid : id ≤ 18446744073709551615) {b : Bool} (hb : liveE d.all id = b) : Calls Tryz.prog 32 #[.pointer (some ⟨x, 0, none⟩), .int .u64 (id : Int)] w fun e w' => e = .returned (.bool b) ∧ Isx V W w' S P x most seed R n d a X0 A0 av z ∧ Below w.heap.size w w' := by
  subst hb
  obtain ⟨tb, lb, sb, own, Rd, lm, sm, l0, hry⟩ := h.kr.ryx
  refine (rvlive_any hry id hid).mono ?_
  rintro e w' ⟨rfl, hb⟩
  exact ⟨rfl, h.below hb, hb⟩
theorem Isx.has (h : Isx V W w S P x most seed R n d a X0 A0 av z) (id : Nat) (hid : id ≤ 18446744073709551615) (tv nv : Value) (ht : Reads w tv ((tagsE d.all id).map encStr)) (hn : Reads w nv (numsV (numsE d.all id))) (hl : (tagsE d.all id).length ≤ 1000 ∧ (numsE d.all id).length ≤ 1000) {er : Int} (her : er = errE d.all id) :
    Calls Tryz.prog 27 #[.pointer (some ⟨x, 0, none⟩), .int .u64 (id : Int), tv, nv, .int .i64 er] w fun e w' => e = .returned (.bool true) ∧ Isx V W w' S P x most seed R n d a X0 A0 av z ∧ Only (fun g => ¬ (S g ∨ g = X0 ∨ g = A0) ∧ V.heap.size ≤ g) w w' := by
  refine (h.kr.has id hid tv nv ht hn hl her).mono ?_
  intro e w' hp
  obtain ⟨h1, h2⟩ := h.prog hp
  exact ⟨h1, h2, hp.2.2⟩
/-- A new block is kept, too. -/
theorem Isx.box (h : Isx V W w S P x most seed R n d a X0 A0 av none) (t : TypeId) (c : Array Value) {E : Nat} (hE : w.heap.size = E) : Isx V W (w.alloc (.cells c t)) (fun g => S g ∨ g = E) P x most seed R n d a X0 A0 av (some (E, t, c)) := by
  subst hE
  have hal : Below w.heap.size w (w.alloc (.cells c t)) := (Below.refl _ _).alloc (Nat.le_refl _) _
  have h1 := h.below hal
  have hs := h.only.size
  refine ⟨h.kr.keep hal (fun g hg => ?_), h1.dx, h1.bx, h1.ba, fun Z hZ => ?_, fun g hg => .inl (h.sp g hg), h1.only.more (fun g hg => ?_)⟩
  · rcases hg with (hg | hg) | hg
    · exact .inl (.inl hg)
    · exact .inr ⟨by omega, by subst hg; simp⟩
    · exact .inl (.inr hg)
  · cases hZ
    exact ⟨Blk.new _ _ _, .inr rfl⟩
  · by_cases hg2 : g = w.heap.size
    · exact .inr (by omega)
    · exact .inl ⟨fun hs => hs.elim hg.1 hg2, hg.2⟩
theorem Isx.unbox {E : Nat} (h : Isx V W w (fun g => S g ∨ g = E) P x most seed R n d a X0 A0 av z) (hP : ∀ g, P g → S g) : Isx V W w S P x most seed R n d a X0 A0 av none :=
  ⟨h.kr.less (fun g hg => hg.elim (fun h => .inl (.inl h)) (fun h => .inr h)), h.dx, h.bx, h.ba, fun Z hZ => (by cases hZ), hP, h.only.more (fun g hg => .inl ⟨fun hs => hg.1 (.inl hs), hg.2⟩)⟩
theorem Isx.cellz (h : Isx V W w S P x most seed R n d a X0 A0 av z) {E : Nat} {t : TypeId} {c : Array Value} (hz : z = some (E, t, c)) {i : Nat} {u : Value} (hu : c[i]? = some u) : w.cell? ⟨E, i, none⟩ = some u := (Blk.cell (h.bz _ hz).1 i).trans hu
theorem Isx.nextx (h : Isx V W w S P x most seed R n d a X0 A0 av z) (hn : n ≤ 100000) (t : Int) : Calls Tryz.prog 33 #[.agg #[.int .i64 most, .slice a.p d.nm.length a.c, .slice a.pA d.all.length a.cA, .slice a.pS d.sl.length a.cS], .int .i64 t] w (IsP V W S P x most seed R n d a X0 A0 av z (.tuple #[.int .i64 (nextI d.sl t).1, .int .i64 (nextI d.sl t).2])) := by
  have hf := h.kr.facts
  refine (xnext_any h.dx most (by omega) t).mono ?_
  rintro e w' ⟨rfl, hb⟩
  exact ⟨rfl, h.below hb⟩
theorem Isx.nexts (h : Isx V W w S P x most seed R n d a X0 A0 av z) (t : Int) {u v : Int} (hx : nextI d.sl t = (u, v)) : Calls Tryz.prog 26 #[.pointer (some ⟨x, 0, none⟩), .int .i64 t, .int .i64 u, .int .i64 v] w (IsP V W S P x most seed R n d a X0 A0 av z (.bool true)) := (h.kr.nexts t hx).mono fun e w' hp => h.prog hp
theorem Isx.number (h : Isx V W w S P x most seed R n d a X0 A0 av z) (t : Int) {b : Bool} (hb : numB t = b) : Calls Tryz.prog 34 #[.int .i64 t] w (IsP V W S P x most seed R n d a X0 A0 av z (.bool b)) := by
  subst hb
  exact (xnumber_any t w).mono fun e w' hp => ⟨hp.1, hp.2 ▸ h⟩
theorem slots_of {d : Dx} {most R : Int} (hw : Iw most R d) (hm : most ≤ 65536) (t : Int) : ofI d.sl t = slotsN d.sl t := by
  unfold slotsN
  split
  · rename_i h
    obtain ⟨k, rfl, -⟩ := numB_nat h
    rw [ofI_nat, Int.toNat_natCast]
  · rename_i h
    unfold ofI
    rw [List.filter_eq_nil_iff.2 ?_]
    · rfl
    · intro s hs h2
      have := hw.nlt s hs
      simp only [decide_eq_true_eq] at h2
      exact h (by rw [← h2]; exact numB_lt (by omega))
theorem Isx.ofx (h : Isx V W w S P x most seed R n d a X0 A0 av z) (hn : n ≤ 100000) (t : Int) {B : List Nat} (hB : slotsN d.sl t = B) : Calls Tryz.prog 35 #[.agg #[.int .i64 most, .slice a.p d.nm.length a.c, .slice a.pA d.all.length a.cA, .slice a.pS d.sl.length a.cS], .int .i64 t] w fun e w' => ∃ q c, IsP V W S P x most seed R n d a X0 A0 av z (.slice q B.length c) e w' ∧ Reads w' (.slice q B.length c) (idsV B) := by
  have hf := h.kr.facts
  have hB2 : ofI d.sl t = B := (slots_of hf.1 hf.2.2.2.2.1 t).trans hB
  have hl := ofI_len d.sl t
  rw [hB2] at hl
  refine (xof_any h.dx most (by omega) t).mono ?_
  rintro e w' ⟨v, rfl, h2, h3⟩
  rw [hB2] at h2
  have h4 := Reads.own_ h2 rfl (by rw [List.length_map]; omega)
  obtain ⟨q, c, rfl⟩ := owns_form h2
  rw [List.length_map] at h4 ⊢
  exact ⟨q, c, ⟨rfl, h.below h3⟩, h4⟩
theorem Isx.slots (h : Isx V W w S P x most seed R n d a X0 A0 av z) (hn : n ≤ 100000) (t : Int) {wv : Value} {B : List Nat} (hB : slotsN d.sl t = B) (hw : Reads w wv (idsV B)) {er : Int} (her : er = if numB t = true then 0 else 2) :
    Calls Tryz.prog 20 #[.pointer (some ⟨x, 0, none⟩), .int .i64 t, wv, .int .i64 er] w (IsP V W S P x most seed R n d a X0 A0 av z (.bool true)) := by
  subst hB
  exact (h.kr.slots hn t wv hw her).mono fun e w' hp => h.prog hp
theorem Isx.valid (h : Isx V W w S P x most seed R n d a X0 A0 av z) (s : ByteArray) {b : Bool} (hb : validB s.data.toList = b) : Calls Tryz.prog 37 #[.string s] w (IsP V W S P x most seed R n d a X0 A0 av z (.bool b)) := by
  subst hb
  exact (rvalid_any s w).mono fun e w' hp => ⟨hp.1, hp.2 ▸ h⟩
theorem Isx.findn (h : Isx V W w S P x most seed R n d a X0 A0 av z) (s : ByteArray) (hl : d.nm.length ≤ 100000) {y : Int} (hz : idxI (findN d.nm s.data.toList) = y) : Calls Tryz.prog 36 #[.agg #[.int .i64 most, .slice a.p d.nm.length a.c], .string s] w (IsP V W S P x most seed R n d a X0 A0 av z (.int .i64 y)) := by
  subst hz
  refine (rfind_any h.dx.names hl most h.kr.facts.1.wf.dist s).mono ?_
  rintro e w' ⟨rfl, hb⟩
  exact ⟨rfl, h.below hb⟩
theorem Isx.finds (h : Isx V W w S P x most seed R n d a X0 A0 av z) (s : ByteArray) (hs : s.size ≤ 140737488355328) {u v : Int} (hx : findM d.nm s.data.toList = (u, v)) : Calls Tryz.prog 19 #[.pointer (some ⟨x, 0, none⟩), .string s, .int .i64 u, .int .i64 v] w (IsP V W S P x most seed R n d a X0 A0 av z (.bool true)) := (h.kr.finds s hs hx).mono fun e w' hp => h.prog hp
theorem Isx.rights (h : Isx V W w S P x most seed R n d a X0 A0 av z) (hn : n ≤ 10000) (s : ByteArray) (hs : s.size ≤ 140737488355328) {B : List Nat} (hB : rightX d.all s.data.toList = B) (hl : B.length ≤ 1000000) : Calls Tryz.prog 22 #[.pointer (some ⟨x, 0, none⟩), .string s] w fun e w' => ∃ q c, IsP V W S P x most seed R n d a X0 A0 av z (.slice q B.length c) e w' ∧ Reads w' (.slice q B.length c) (idsV B) ∧ Below w.heap.size w w' := by
  subst hB
  refine (h.kr.rights (by omega) s hs).mono ?_
  rintro e w' ⟨v, rfl, h2, h3, -⟩
  have h4 := Reads.own_ h2 (by rw [List.length_map]) (by rw [List.length_map]; omega)
  obtain ⟨q, c, rfl⟩ := owns_form h2
  exact ⟨q, c, ⟨rfl, h.below h3⟩, h4, h3⟩
theorem Isx.rightx (h : Isx V W w S P x most seed R n d a X0 A0 av z) (hn : n ≤ 10000) (s : ByteArray) {B : List Nat} (hB : rightX d.all s.data.toList = B) (hl : B.length ≤ 1000000) : Calls Tryz.prog 38 #[.agg #[.int .i64 most, .slice a.p d.nm.length a.c, .slice a.pA d.all.length a.cA, .slice a.pS d.sl.length a.cS], .string s] w fun e w' => ∃ q c, IsP V W S P x most seed R n d a X0 A0 av z (.slice q B.length c) e w' ∧ Reads w' (.slice q B.length c) (idsV B) ∧ Below w.heap.size w w' := by
  subst hB
  have hf := h.kr.facts
  have h5 := xright_any h.dx most (by omega) (fun e he => (tagsB_is (hf.1.len e he).2.2).2.2.1) s.data.toList
  rw [show (⟨s.data.toList.toArray⟩ : ByteArray) = s by simp] at h5
  refine h5.mono ?_
  rintro e w' ⟨v, rfl, h2, h3⟩
  have h4 := Reads.own_ h2 rfl (by rw [List.length_map]; omega)
  obtain ⟨q, c, rfl⟩ := owns_form h2
  rw [List.length_map] at h4 ⊢
  exact ⟨q, c, ⟨rfl, h.below h3⟩, h4, h3⟩
end
theorem reads_str {w : World} {tp : Option Addr} {tc : Nat} {ts : List (List UInt8)} (h : Reads w (.slice tp ts.length tc) (ts.map encStr)) {i : Nat} {s : List UInt8} (hs : ts[i]? = some s) : ∃ g o, tp = some ⟨g, o, none⟩ ∧ ts.length ≤ tc ∧ w.cell? ⟨g, o + i, none⟩ = some (.string ⟨s.toArray⟩) := by
  obtain ⟨p, cap, hv, hl, h0⟩ := h
  rw [List.length_map] at hv h0
  cases hv
  have hi := (List.getElem?_eq_some_iff.1 hs).1
  rcases h0 with h0 | ⟨g, o, hp, hg, hc, hcell⟩
  · omega
  · exact ⟨g, o, hp, hc, hcell i _ (encStr_getElem _ _ _ hs)⟩
theorem right_empty {A : List En} (h : ∀ e ∈ A, tagsB e.tags = true) : rightX A [] = [] := by
  unfold rightX
  rw [List.flatMap_eq_nil_iff]
  intro e he
  split
  · rw [List.map_eq_nil_iff, List.filter_eq_nil_iff]
    intro t ht h2
    have := (tagsB_is (h e he)).1 t ht
    simp only [beq_iff_eq] at h2
    subst h2
    cases this
  · rfl
theorem live_zero {A : List En} (h : ∀ e ∈ A, 0 < e.id) : liveE A 0 = false := by
  cases h1 : liveE A 0 with
  | false => rfl
  | true =>
    obtain ⟨e, he, hi, -⟩ := liveE_iff.1 h1
    have := h e he
    omega
theorem eq_of_ids {A : List En} (h : A.Pairwise (fun x y => x.id < y.id)) {e y : En} (he : e ∈ A) (hy : y ∈ A) (hi : y.id = e.id) : y = e := by
  induction h with
  | nil => cases he
  | cons h1 h2 ih =>
    rcases List.mem_cons.1 he with rfl | he2
    · rcases List.mem_cons.1 hy with rfl | hy2
      · rfl
      · have := h1 y hy2
        omega
    · rcases List.mem_cons.1 hy with rfl | hy2
      · have := h1 e he2
        omega
      · exact ih he2 hy2
set_option maxHeartbeats 16000000 in
set_option maxRecDepth 100000 in
theorem ris_gen {V w : World} {S P : Nat → Prop} {x : Nat} {most seed R : Int} {n : Nat} {d : Dx} {a : Dp} (k : Kr V w S x most seed R n d) (hn : n ≤ 10000) (h : Dix w P d a) (hP : ∀ g, P g → S g) (hl : d.nm.length ≤ 100000) (what : Int) (id : Nat) (tp : Option Addr) (tc : Nat) (ts : List (List UInt8)) (an ai : Int) (hTR : ∀ (W3 : World), Only (fun g => ¬ S g ∧ V.heap.size ≤ g) w W3 → Reads W3 (.slice tp ts.length tc) (ts.map encStr)) (htl : ts.length ≤ 1000) (htb : ∀ s ∈ ts, s.length ≤ 1000) :
    Calls Tryz.prog 8 #[.pointer (some ⟨x, 0, none⟩), dixV most d a, .agg #[.int .i64 what, .int .u64 (id : Int), .slice tp ts.length tc, .int .i64 an, .int .i64 ai]] w (KrP V w S x most seed R n d) := by
  obtain ⟨W, hW⟩ : ∃ W, (w.alloc (.cells (dixCs most d a) 35)).alloc (.cells #[.int .i64 what, .int .u64 (id : Int), .slice tp ts.length tc, .int .i64 an, .int .i64 ai] 38) = W := ⟨_, rfl⟩
  obtain ⟨X0, hX0⟩ : ∃ X0, w.heap.size = X0 := ⟨_, rfl⟩
  have hbw : Below w.heap.size w W := by rw [← hW]; exact ((Below.refl _ _).alloc (Nat.le_refl _) _).alloc (by simp) _
  have hbx : Blk W X0 35 (dixCs most d a) := by rw [← hW, ← hX0]; exact Blk.alloc (Blk.new w _ _) _
  have hba : Blk W (X0 + 1) 38 #[.int .i64 what, .int .u64 (id : Int), .slice tp ts.length tc, .int .i64 an, .int .i64 ai] := by
    have := Blk.new (w.alloc (.cells (dixCs most d a) 35)) 38 #[.int .i64 what, .int .u64 (id : Int), .slice tp ts.length tc, .int .i64 an, .int .i64 ai]
    rw [show (w.alloc (.cells (dixCs most d a) 35)).heap.size = X0 + 1 by simp [hX0]] at this
    rw [← hW]
    exact this
  have IS : Hid (Isx V w W S P x most seed R n d a X0 (X0 + 1) #[.int .i64 what, .int .u64 (id : Int), .slice tp ts.length tc, .int .i64 an, .int .i64 ai] none) :=
    ⟨k.keep hbw (fun g hg => by
      rcases hg with hg | hg | hg
      · exact .inl hg
      · exact .inr ⟨by omega, by have := hbx.lt; omega⟩
      · exact .inr ⟨by omega, by have := hba.lt; omega⟩), h.below hbw, hbx, hba, fun Z hZ => (by cases hZ), hP, Only.of_below hbw _⟩
  have HX0 := Lib.hid hX0
  have HTR := Lib.hid hTR
  have HTB := Lib.hid htb
  clear hTR htb
  clear hbw hbx hba k h
  go_enter Tryz.func8, Tryz.ntmps8
  go_upto_region 1 with (fail)
  try simp only [HX0.out]
  have hW2 := hW
  unfold dixCs at hW2
  try rw [hW2]
  clear hW2 hX0 hW
  obtain ⟨d0, d1, d2, d3⟩ := IS.out.cells
  have IS0 : Hid (Isx V w W.drew S P x most seed R n d a X0 (X0 + 1) #[.int .i64 what, .int .u64 (id : Int), .slice tp ts.length tc, .int .i64 an, .int .i64 ai] none) := IS.out.below (Below.refl _ _).drew
  have HNR : Hid (∀ (W3 : World) (B : Nat) (q : Option Addr) (c : Nat), W3.ownsRow B 9 1 (.slice q (namesL d.nm).length c) (namesL d.nm).length ((namesL d.nm).map encStr) → Reads W3 (.slice q (namesL d.nm).length c) ((namesL d.nm).map encStr)) := fun W3 B q c ho => by
    have hnl : (namesL d.nm).length ≤ d.nm.length := by rw [namesL_len]; exact liveN_le d.nm
    exact Reads.own_ (by rw [List.length_map]; exact ho) rfl (by rw [List.length_map]; omega)
  go_cut [45] (fun s45 wx => s45 = .bool false ∧ Isx V w wx S P x most seed R n d a X0 (X0 + 1) #[.int .i64 what, .int .u64 (id : Int), .slice tp ts.length tc, .int .i64 an, .int .i64 ai] none)
  case first =>
    go_region_held3 (fun w' => w'.cell? ⟨X0, 0, none⟩ = some (.int .i64 most) ∧ w'.cell? ⟨X0, 1, none⟩ = some (.slice a.p d.nm.length a.c) ∧ w'.cell? ⟨X0, 2, none⟩ = some (.slice a.pA d.all.length a.cA) ∧ w'.cell? ⟨X0, 3, none⟩ = some (.slice a.pS d.sl.length a.cS)) (go_keep) (first
      | (go_at_call 29; refine (IS0.out.wrong (by omega)).mono ?_; rintro e w1 ⟨rfl, i1⟩; have I1 := Lib.hid i1; obtain ⟨a10, a11, a12, a13⟩ := i1.cells; clear i1)
      | (go_at_call 23; refine (I1.out.sizes).mono ?_; rintro e w2 ⟨rfl, i2⟩; have I2 := Lib.hid i2; obtain ⟨a20, a21, a22, a23⟩ := i2.cells; clear i2)
      | (go_at_call 30; refine (I2.out.len hl).mono ?_; rintro e w3 ⟨rfl, i3⟩; have I3 := Lib.hid i3; obtain ⟨a30, a31, a32, a33⟩ := i3.cells; clear i3)
      | (go_at_call 28; refine (I3.out.room).mono ?_; rintro e w4 ⟨rfl, i4⟩; have I4 := Lib.hid i4; obtain ⟨a40, a41, a42, a43⟩ := i4.cells; clear i4)
      | (go_at_call 25; refine (I4.out.known).mono ?_; rintro e w5 ⟨q5, c5, ⟨rfl, i5⟩, o5⟩; have I5 := Lib.hid i5; have O5 := Lib.hid o5; obtain ⟨a50, a51, a52, a53⟩ := i5.cells; clear i5 o5)
      | (go_at_call 31; refine (I5.out.names hl).mono ?_; rintro e w6 ⟨q6, c6, ⟨rfl, i6⟩, o6, b6⟩; have I6 := Lib.hid i6; have O6 := Lib.hid o6; have B6 := Lib.hid b6; obtain ⟨a60, a61, a62, a63⟩ := i6.cells; clear i6 o6 b6)
      | (go_at_call 24; refine (strings_any _ _ (namesL d.nm) w6 ((HNR.out _ _ _ _ O5.out).below B6.out) (HNR.out _ _ _ _ O6.out)).mono ?_; rintro e w7 ⟨rfl, b7⟩; have I7 := Lib.hid (I6.out.below b7); obtain ⟨a70, a71, a72, a73⟩ := I7.out.cells; clear b7))
    all_goals
      go_wp2_with fail
      go_meet
      exact ⟨rfl, I7.out⟩
  case rest =>
    obtain ⟨rfl, hcut2⟩ := hcut
    have ISr := Lib.hid hcut2
    clear hcut2 d0 d1 d2 d3 IS IS0 HNR
    obtain ⟨N, hN⟩ : ∃ N, d.all.length = N := ⟨_, rfl⟩
    have HN := Lib.hid hN
    have hNl : N ≤ 10000 := by rw [← hN]; have := ISr.out.kr.facts.2.2.1; omega
    clear hN
    obtain ⟨d0, d1, d2, d3⟩ := ISr.out.cells
    rw [HN.out] at d2
    go_wp2_with fail
    go_loopg [7] N (fun r s7 wr => ∃ i : Nat, r + i = N ∧ s7 = .int .i64 (i : Int) ∧ Isx V w wr S P x most seed R n d a X0 (X0 + 1) #[.int .i64 what, .int .u64 (id : Int), .slice tp ts.length tc, .int .i64 an, .int .i64 ai] none)
    case atStart => exact ⟨0, by omega, rfl, ISr.out⟩
    case round =>
      clear ISr d0 d1 d2 d3
      obtain ⟨i, hr, rfl, hi⟩ := hrel
      have HR := Lib.hid hr
      have IS := Lib.hid hi
      have hiN : i ≤ N := by omega
      obtain ⟨d0, d1, d2, d3⟩ := hi.cells
      rw [HN.out] at d2
      clear hr hi
      by_cases hlt : i < N
      · obtain ⟨e, he⟩ : ∃ e, d.all[i]? = some e := ⟨_, List.getElem?_eq_getElem (by rw [HN.out]; exact hlt)⟩
        obtain ⟨cc, hcc⟩ := IS.out.dx.ec he
        obtain ⟨gA, hp, hg, -, -, hcell⟩ := IS.out.dx.all.at_ (by rw [HN.out]; omega)
        have n0 := hcell (i * 4 + 0) _ ((ens_get he hcc 0 (by decide)).trans rfl)
        have n1 := hcell (i * 4 + 1) _ ((ens_get he hcc 1 (by decide)).trans rfl)
        have n2 := hcell (i * 4 + 2) _ ((ens_get he hcc 2 (by decide)).trans rfl)
        have n3 := hcell (i * 4 + 3) _ ((ens_get he hcc 3 (by decide)).trans rfl)
        simp only [Nat.add_zero] at n0
        rw [hp] at d2
        have HE := Lib.hid he
        have HC := Lib.hid hcc
        clear hcell he hcc hg hp
        go_upto_region 7 with (fail)
        have hid8 : e.id ≤ 18446744073709551615 := IS.out.kr.facts.2.2.2.2.2 e (List.mem_of_getElem? HE.out)
        have hiw := IS.out.kr.facts.1
        have hen := hiw.len e (List.mem_of_getElem? HE.out)
        have ht16 := (tagsB_is hen.2.2).2.2.1
        have hn16 : e.nums.length ≤ 16 := by rw [hen.1]; exact ht16
        clear hen
        obtain ⟨E, hE⟩ : ∃ E, wr.heap.size = E := ⟨_, rfl⟩
        have IE := Lib.hid (IS.out.box 75 #[.int .u64 (e.id : Int), .slice cc.pt e.tags.length cc.ct, .slice cc.pn e.nums.length cc.cn, .bool e.live] hE)
        try simp only [hE]
        clear hE n0 n1 n2 n3 d0 d1 d2 d3 IS
        generalize wr.alloc (.cells #[.int .u64 (e.id : Int), .slice cc.pt e.tags.length cc.ct, .slice cc.pn e.nums.length cc.cn, .bool e.live] 75) = W1 at *
        have ID : Hid (Isx V w W1.drew (fun g => S g ∨ g = E) P x most seed R n d a X0 (X0 + 1) #[.int .i64 what, .int .u64 (id : Int), .slice tp ts.length tc, .int .i64 an, .int .i64 ai] (some (E, 75, #[.int .u64 (e.id : Int), .slice cc.pt e.tags.length cc.ct, .slice cc.pn e.nums.length cc.cn, .bool e.live]))) := IE.out.below (Below.refl _ _).drew
        have HRT : Hid (∀ W3, Isx V w W3 (fun g => S g ∨ g = E) P x most seed R n d a X0 (X0 + 1) #[.int .i64 what, .int .u64 (id : Int), .slice tp ts.length tc, .int .i64 an, .int .i64 ai] (some (E, 75, #[.int .u64 (e.id : Int), .slice cc.pt e.tags.length cc.ct, .slice cc.pn e.nums.length cc.cn, .bool e.live])) → Reads W3 (.slice cc.pt e.tags.length cc.ct) (e.tags.map encStr) ∧ Reads W3 (.slice cc.pn e.nums.length cc.cn) (numsV e.nums)) := fun W3 h3 => by
          obtain ⟨r1, r2⟩ := h3.dx.sub i e cc HE.out HC.out
          refine ⟨?_, ?_⟩
          · have := RowS.reads (xs := e.tags.map encStr) (by rw [List.length_map]; exact r1) (by rw [List.length_map]; omega)
            rw [List.length_map] at this
            exact this
          · have := RowS.reads (xs := numsV e.nums) (by rw [List.length_map]; exact r2) (by rw [List.length_map]; omega)
            rw [List.length_map] at this
            exact this
        obtain ⟨C, hC⟩ : ∃ C : World → Prop, ∀ w', C w' ↔ (Isx V w w' (fun g => S g ∨ g = E) P x most seed R n d a X0 (X0 + 1) #[.int .i64 what, .int .u64 (id : Int), .slice tp ts.length tc, .int .i64 an, .int .i64 ai] (some (E, 75, #[.int .u64 (e.id : Int), .slice cc.pt e.tags.length cc.ct, .slice cc.pn e.nums.length cc.cn, .bool e.live]))) := ⟨_, fun _ => Iff.rfl⟩
        have HC := Lib.hid hC
        have k0 : ∀ u : InC C, u.w.cell? ⟨E, 0, none⟩ = some (.int .u64 (e.id : Int)) := fun u => ((hC _).1 u.ok).cellz rfl rfl
        have k1 : ∀ u : InC C, u.w.cell? ⟨E, 1, none⟩ = some (.slice cc.pt e.tags.length cc.ct) := fun u => ((hC _).1 u.ok).cellz rfl rfl
        have k2 : ∀ u : InC C, u.w.cell? ⟨E, 2, none⟩ = some (.slice cc.pn e.nums.length cc.cn) := fun u => ((hC _).1 u.ok).cellz rfl rfl
        have k3 : ∀ u : InC C, u.w.cell? ⟨E, 3, none⟩ = some (.bool e.live) := fun u => ((hC _).1 u.ok).cellz rfl rfl
        have HC0 : Hid (C W1.drew) := (hC _).2 ID.out
        clear hC
        go_cut [91] (fun s91 wx => s91 = .bool false ∧ Isx V w wx S P x most seed R n d a X0 (X0 + 1) #[.int .i64 what, .int .u64 (id : Int), .slice tp ts.length tc, .int .i64 an, .int .i64 ai] none)
        case first =>
          cases hlv : e.live with
          | true =>
            have hge := getE_of hiw.ids (List.mem_of_getElem? HE.out) hlv
            have HTG : Hid (tagsE d.all e.id = e.tags ∧ numsE d.all e.id = e.nums ∧ errE d.all e.id = 0 ∧ liveE d.all e.id = true) := by
              have h4 : liveE d.all e.id = true := liveE_iff.2 ⟨e, List.mem_of_getElem? HE.out, rfl, hlv⟩
              unfold tagsE numsE errE
              rw [hge]
              exact ⟨rfl, rfl, by rw [if_pos h4], h4⟩
            rw [hlv] at k3
            clear hge hiw hlv ID IE
            have hne : Nonempty (InC C) := ⟨⟨_, HC0.out⟩⟩
            refine wp_region_class (C := C) (by kernel_rfl) (by kernel_rfl) HC0.out ?_
            repeat (go_big_quiet_step (first
              | (rename_i u; go_at_call 32; refine class_call (v := .bool true) ((((HC.out _).1 u.ok).live e.id hid8 HTG.out.2.2.2).mono ?_); rintro e1_ w1 ⟨rfl, i1, b1⟩; exact ⟨rfl, (HC.out _).2 i1⟩)
              | (rename_i u; go_at_call 27; refine class_call (v := .bool true) ((((HC.out _).1 u.ok).has e.id hid8 _ _ (by rw [HTG.out.1]; exact (HRT.out _ ((HC.out _).1 u.ok)).1) (by rw [HTG.out.2.1]; exact (HRT.out _ ((HC.out _).1 u.ok)).2) (by rw [HTG.out.1, HTG.out.2.1]; omega) (by rw [HTG.out.2.2.1])).mono ?_); rintro e2_ w2 ⟨rfl, i2, o2⟩; exact ⟨rfl, (HC.out _).2 i2⟩)))
            refine wpQuiet_nil ?_
            intro w5 hw5
            go_wp2_with fail
            go_meet
            exact ⟨rfl, ((HC.out _).1 hw5).unbox hP⟩
          | false =>
            have HTG : Hid (tagsE d.all e.id = [] ∧ numsE d.all e.id = [] ∧ errE d.all e.id = 9 ∧ liveE d.all e.id = false) := by
              have h4 : liveE d.all e.id = false := by
                cases h5 : liveE d.all e.id with
                | false => rfl
                | true =>
                  obtain ⟨y, hy, hyi, hyl⟩ := liveE_iff.1 h5
                  have h6 := eq_of_ids hiw.ids (List.mem_of_getElem? HE.out) hy hyi
                  rw [h6] at hyl
                  rw [hyl] at hlv
                  cases hlv
              have h5 : getE d.all e.id = none := by
                unfold liveE at h4
                cases hg : getE d.all e.id with
                | none => rfl
                | some y => rw [hg] at h4; cases h4
              unfold tagsE numsE errE
              rw [h5]
              exact ⟨rfl, rfl, by rw [if_neg (by rw [h4]; exact Bool.false_ne_true)], h4⟩
            rw [hlv] at k3
            clear hiw hlv ID IE
            have hne : Nonempty (InC C) := ⟨⟨_, HC0.out⟩⟩
            refine wp_region_class (C := C) (by kernel_rfl) (by kernel_rfl) HC0.out ?_
            repeat (go_big_quiet_step (first
              | (rename_i u; go_at_call 32; refine class_call (v := .bool false) ((((HC.out _).1 u.ok).live e.id hid8 HTG.out.2.2.2).mono ?_); rintro e1_ w1 ⟨rfl, i1, b1⟩; exact ⟨rfl, (HC.out _).2 i1⟩)
              | (rename_i u; go_at_call 27; refine class_call (v := .bool true) ((((HC.out _).1 u.ok).has e.id hid8 (.slice none 0 0) (.slice none 0 0) (by rw [HTG.out.1]; exact Reads.nil _ _ _) (by rw [HTG.out.2.1]; exact Reads.nil _ _ _) (by rw [HTG.out.1, HTG.out.2.1]; simp) (by rw [HTG.out.2.2.1])).mono ?_); rintro e2_ w2 ⟨rfl, i2, o2⟩; exact ⟨rfl, (HC.out _).2 i2⟩)))
            refine wpQuiet_nil ?_
            intro w5 hw5
            go_wp2_with fail
            go_meet
            exact ⟨rfl, ((HC.out _).1 hw5).unbox hP⟩
        case rest =>
          obtain ⟨rfl, hcut2⟩ := hcut
          have IU := Lib.hid hcut2
          clear hcut2
          go_wp2_with fail
          go_roundg (N - (i + 1))
          case measure => have := HR.out; omega
          case rel => exact ⟨i + 1, by omega, by go_num, IU.out⟩
      · obtain rfl : i = N := by omega
        have b3 := (Blk.cell IS.out.ba 3).trans (rfl : _ = some (Value.int .i64 an))
        obtain ⟨an1, han1⟩ : ∃ z, IntKind.i64.wrap (an + 1) = z := ⟨_, rfl⟩
        clear HR hiN hlt
        go_upto_region 10 with (fail)
        obtain ⟨B0, hB0⟩ : ∃ B0, wr.heap.size = B0 := ⟨_, rfl⟩
        have IB := Lib.hid (IS.out.box 3 #[.int .i64 an, .int .i64 an1, .int .i64 0, .int .i64 1, .int .i64 2, .int .i64 65535] hB0)
        try simp only [hB0]
        clear hB0 IS b3 d0 d1 d2 d3 han1
        generalize wr.alloc (.cells #[.int .i64 an, .int .i64 an1, .int .i64 0, .int .i64 1, .int .i64 2, .int .i64 65535] 3) = W2 at *
        go_loopg [99] 6 (fun r s99 wr => ∃ i : Nat, r + i = 6 ∧ s99 = .int .i64 (i : Int) ∧ Isx V w wr (fun g => S g ∨ g = B0) P x most seed R n d a X0 (X0 + 1) #[.int .i64 what, .int .u64 (id : Int), .slice tp ts.length tc, .int .i64 an, .int .i64 ai] (some (B0, 3, #[.int .i64 an, .int .i64 an1, .int .i64 0, .int .i64 1, .int .i64 2, .int .i64 65535])))
        case atStart => exact ⟨0, by omega, rfl, IB.out⟩
        case round =>
          clear IB
          obtain ⟨i, hr, rfl, hi⟩ := hrel
          have HR := Lib.hid hr
          have IS := Lib.hid hi
          have hi6 : i ≤ 6 := by omega
          obtain ⟨d0, d1, d2, d3⟩ := hi.cells
          clear hr hi
          by_cases hlt : i < 6
          · obtain ⟨t, ht⟩ : ∃ t : Int, (#[Value.int .i64 an, .int .i64 an1, .int .i64 0, .int .i64 1, .int .i64 2, .int .i64 65535])[i]? = some (.int .i64 t) := by
              match i, hlt with
              | 0, _ => exact ⟨_, rfl⟩
              | 1, _ => exact ⟨_, rfl⟩
              | 2, _ => exact ⟨_, rfl⟩
              | 3, _ => exact ⟨_, rfl⟩
              | 4, _ => exact ⟨_, rfl⟩
              | 5, _ => exact ⟨_, rfl⟩
              | i + 6, h => omega
            have n0 := IS.out.cellz rfl ht
            obtain ⟨nu, hnu⟩ : ∃ nu, nextI d.sl t = nu := ⟨_, rfl⟩
            obtain ⟨nu, nv⟩ := nu
            have HNU : Hid (nextI d.sl t = (nu, nv)) := hnu
            have HNC : Hid (∀ W3, Isx V w W3 (fun g => S g ∨ g = B0) P x most seed R n d a X0 (X0 + 1) #[.int .i64 what, .int .u64 (id : Int), .slice tp ts.length tc, .int .i64 an, .int .i64 ai] (some (B0, 3, #[.int .i64 an, .int .i64 an1, .int .i64 0, .int .i64 1, .int .i64 2, .int .i64 65535])) → Calls Tryz.prog 33 #[.agg #[.int .i64 most, .slice a.p d.nm.length a.c, .slice a.pA d.all.length a.cA, .slice a.pS d.sl.length a.cS], .int .i64 t] W3 (IsP V w (fun g => S g ∨ g = B0) P x most seed R n d a X0 (X0 + 1) #[.int .i64 what, .int .u64 (id : Int), .slice tp ts.length tc, .int .i64 an, .int .i64 ai] (some (B0, 3, #[.int .i64 an, .int .i64 an1, .int .i64 0, .int .i64 1, .int .i64 2, .int .i64 65535])) (.tuple #[.int .i64 nu, .int .i64 nv]))) := fun W3 h3 => by
              have := h3.nextx (by omega) t
              rw [hnu] at this
              exact this
            obtain ⟨sB, hsB⟩ : ∃ sB, slotsN d.sl t = sB := ⟨_, rfl⟩
            have HSB := Lib.hid hsB
            clear ht hnu hsB
            cases hnb : numB t with
            | true =>
              have HNB := Lib.hid hnb
              clear hnb
              go_wp2_with (first
                | (go_at_call 33; refine (HNC.out _ IS.out).mono ?_; rintro e1 w1 ⟨rfl, i1⟩; have I1 := Lib.hid i1; obtain ⟨a10, a11, a12, a13⟩ := i1.cells; clear i1)
                | (go_at_call 26; refine (I1.out.nexts t HNU.out).mono ?_; rintro e2 w2 ⟨rfl, i2⟩; have I2 := Lib.hid i2; obtain ⟨a20, a21, a22, a23⟩ := i2.cells; clear i2)
                | (go_at_call 34; refine (I2.out.number t HNB.out).mono ?_; rintro e3 w3 ⟨rfl, i3⟩; have I3 := Lib.hid i3; obtain ⟨a30, a31, a32, a33⟩ := i3.cells; clear i3)
                | (go_at_call 35; refine (I3.out.ofx (by omega) t HSB.out).mono ?_; rintro e4 w4 ⟨q4, c4, ⟨rfl, i4⟩, r4⟩; have I4 := Lib.hid i4; have R4 := Lib.hid r4; clear i4 r4)
                | (go_at_call 20; refine (I4.out.slots (by omega) t HSB.out R4.out (by rw [HNB.out]; rfl)).mono ?_; rintro e5 w5 ⟨rfl, i5⟩; have I5 := Lib.hid i5; clear i5))
              go_roundg (6 - (i + 1))
              case measure => have := HR.out; omega
              case rel => exact ⟨i + 1, by omega, by go_num, I5.out⟩
            | false =>
              have HNB := Lib.hid hnb
              clear hnb
              go_wp2_with (first
                | (go_at_call 33; refine (HNC.out _ IS.out).mono ?_; rintro e1 w1 ⟨rfl, i1⟩; have I1 := Lib.hid i1; obtain ⟨a10, a11, a12, a13⟩ := i1.cells; clear i1)
                | (go_at_call 26; refine (I1.out.nexts t HNU.out).mono ?_; rintro e2 w2 ⟨rfl, i2⟩; have I2 := Lib.hid i2; obtain ⟨a20, a21, a22, a23⟩ := i2.cells; clear i2)
                | (go_at_call 34; refine (I2.out.number t HNB.out).mono ?_; rintro e3 w3 ⟨rfl, i3⟩; have I3 := Lib.hid i3; obtain ⟨a30, a31, a32, a33⟩ := i3.cells; clear i3)
                | (go_at_call 35; refine (I3.out.ofx (by omega) t HSB.out).mono ?_; rintro e4 w4 ⟨q4, c4, ⟨rfl, i4⟩, r4⟩; have I4 := Lib.hid i4; have R4 := Lib.hid r4; clear i4 r4)
                | (go_at_call 20; refine (I4.out.slots (by omega) t HSB.out R4.out (by rw [HNB.out]; rfl)).mono ?_; rintro e5 w5 ⟨rfl, i5⟩; have I5 := Lib.hid i5; clear i5))
              go_roundg (6 - (i + 1))
              case measure => have := HR.out; omega
              case rel => exact ⟨i + 1, by omega, by go_num, I5.out⟩
          · obtain rfl : i = 6 := by omega
            have IU := Lib.hid (IS.out.unbox hP)
            clear IS HR d0 d1 d2 d3
            obtain ⟨M, hM⟩ : ∃ M, ts.length = M := ⟨_, rfl⟩
            have HM := Lib.hid hM
            have b2 := (Blk.cell IU.out.ba 2).trans (rfl : _ = some (Value.slice tp ts.length tc))
            rw [hM] at b2 htl
            clear hM
            go_wp2_with fail
            have HTW : Hid (∀ W3, Isx V w W3 S P x most seed R n d a X0 (X0 + 1) #[.int .i64 what, .int .u64 (id : Int), .slice tp ts.length tc, .int .i64 an, .int .i64 ai] none → Reads W3 (.slice tp ts.length tc) (ts.map encStr)) := fun W3 h3 => HTR.out W3 h3.only
            clear HTR
            have HTR := HTW
            clear HTW
            go_loopg [14] M (fun r s14 wr => ∃ i : Nat, r + i = M ∧ s14 = .int .i64 (i : Int) ∧ Isx V w wr S P x most seed R n d a X0 (X0 + 1) #[.int .i64 what, .int .u64 (id : Int), .slice tp ts.length tc, .int .i64 an, .int .i64 ai] none)
            case atStart => exact ⟨0, by omega, rfl, IU.out⟩
            case round =>
              clear IU b2
              obtain ⟨i, hr, rfl, hi⟩ := hrel
              have HR := Lib.hid hr
              have IS := Lib.hid hi
              have hiM : i ≤ M := by omega
              obtain ⟨d0, d1, d2, d3⟩ := hi.cells
              have b2 := (Blk.cell hi.ba 2).trans (rfl : _ = some (Value.slice tp ts.length tc))
              clear hr hi
              by_cases hlt : i < M
              · obtain ⟨s, hs⟩ : ∃ s, ts[i]? = some s := ⟨_, List.getElem?_eq_getElem (by rw [HM.out]; exact hlt)⟩
                obtain ⟨g, o, hp, hcp, n0⟩ := reads_str (HTR.out _ IS.out) hs
                rw [hp, HM.out] at b2
                rw [HM.out] at hcp
                have HSZ : Hid ((⟨s.toArray⟩ : ByteArray).size ≤ 140737488355328) := by
                  have := HTB.out s (List.mem_of_getElem? hs)
                  show s.toArray.size ≤ _
                  simp
                  omega
                have HS : Hid ((⟨s.toArray⟩ : ByteArray).data.toList = s) := by simp [Hid]
                clear hs hp
                generalize (⟨s.toArray⟩ : ByteArray) = sb at *
                obtain ⟨rB, hrB⟩ : ∃ rB, rightX d.all s = rB := ⟨_, rfl⟩
                have HRL : Hid (rB.length ≤ 1000000) := by
                  have hf := IS.out.kr.facts
                  have := rightX_len d.all s (fun e he => (tagsB_is (hf.1.len e he).2.2).2.2.1)
                  unfold Hid
                  rw [← hrB]
                  omega
                have HRB : Hid (rightX d.all sb.data.toList = rB) := by rw [HS.out]; exact hrB
                clear hrB
                cases hvb : validB s with
                | false =>
                  have HVB := Lib.hid hvb
                  have HFM : Hid (findM d.nm s = (0, 2)) := by unfold Hid findM; rw [if_neg (by rw [hvb]; exact Bool.false_ne_true)]
                  obtain ⟨z, hz⟩ : ∃ z, idxI (findN d.nm s) = z := ⟨_, rfl⟩
                  have HFN := Lib.hid hz
                  clear hvb hz
                  go_upto_region 30 with (first | (go_at_call 36; refine (IS.out.findn sb hl (y := z) (by rw [HS.out]; exact HFN.out)).mono ?_; rintro e w1 ⟨rfl, i1⟩; have I1 := Lib.hid i1; obtain ⟨a10, a11, a12, a13⟩ := i1.cells; clear i1) | (go_at_call 37; refine (I1.out.valid sb (b := false) (by rw [HS.out]; exact HVB.out)).mono ?_; rintro e w2 ⟨rfl, i2⟩; have I2 := Lib.hid i2; obtain ⟨a20, a21, a22, a23⟩ := i2.cells; clear i2))
                  have IA : Hid (Isx V w w2.drew S P x most seed R n d a X0 (X0 + 1) #[.int .i64 what, .int .u64 (id : Int), .slice tp ts.length tc, .int .i64 an, .int .i64 ai] none) := I2.out.below (Below.refl _ _).drew
                  clear HTR HTB b2 n0
                  go_region_held3 (fun w' => w'.cell? ⟨X0, 0, none⟩ = some (.int .i64 most) ∧ w'.cell? ⟨X0, 1, none⟩ = some (.slice a.p d.nm.length a.c) ∧ w'.cell? ⟨X0, 2, none⟩ = some (.slice a.pA d.all.length a.cA) ∧ w'.cell? ⟨X0, 3, none⟩ = some (.slice a.pS d.sl.length a.cS)) (go_keep) (first
                    | (go_at_call 19; refine (IA.out.finds sb HSZ.out (by rw [HS.out]; exact HFM.out)).mono ?_; rintro e w5 ⟨rfl, i5⟩; have I5 := Lib.hid i5; obtain ⟨a50, a51, a52, a53⟩ := i5.cells; clear i5)
                    | (go_at_call 22; refine (I5.out.rights hn sb HSZ.out HRB.out HRL.out).mono ?_; rintro e w6 ⟨q6, c6, ⟨rfl, i6⟩, r6, b6⟩; have I6 := Lib.hid i6; have R6 := Lib.hid r6; obtain ⟨a60, a61, a62, a63⟩ := i6.cells; clear i6 r6 b6)
                    | (go_at_call 38; refine (I6.out.rightx hn sb HRB.out HRL.out).mono ?_; rintro e w7 ⟨q7, c7, ⟨rfl, i7⟩, r7, b7⟩; have I7 := Lib.hid i7; have R7 := Lib.hid r7; have R67 := Lib.hid (R6.out.below b7); obtain ⟨a70, a71, a72, a73⟩ := i7.cells; clear i7 r7 b7)
                    | (go_at_call 21; refine (ids_any _ _ rB w7 R67.out R7.out).mono ?_; rintro e w8 ⟨rfl, b8⟩; have I8 := Lib.hid (I7.out.below b8); obtain ⟨a80, a81, a82, a83⟩ := I8.out.cells; clear b8))
                  all_goals
                    go_wp2_with fail
                    go_roundg (M - (i + 1))
                    case measure => have := HR.out; omega
                    case rel => exact ⟨i + 1, by omega, by go_num, I8.out⟩
                | true =>
                  have HVB := Lib.hid hvb
                  cases hfn : findN d.nm s with
                  | none =>
                    have HFM : Hid (findM d.nm s = (0, 9)) := by unfold Hid findM; rw [if_pos hvb, hfn]
                    have HFN : Hid (idxI (findN d.nm s) = -1) := by unfold Hid; rw [hfn]; rfl
                    clear hvb hfn
                    go_upto_region 30 with (first | (go_at_call 36; refine (IS.out.findn sb hl (y := -1) (by rw [HS.out]; exact HFN.out)).mono ?_; rintro e w1 ⟨rfl, i1⟩; have I1 := Lib.hid i1; obtain ⟨a10, a11, a12, a13⟩ := i1.cells; clear i1) | (go_at_call 37; refine (I1.out.valid sb (b := true) (by rw [HS.out]; exact HVB.out)).mono ?_; rintro e w2 ⟨rfl, i2⟩; have I2 := Lib.hid i2; obtain ⟨a20, a21, a22, a23⟩ := i2.cells; clear i2))
                    have IA : Hid (Isx V w w2.drew S P x most seed R n d a X0 (X0 + 1) #[.int .i64 what, .int .u64 (id : Int), .slice tp ts.length tc, .int .i64 an, .int .i64 ai] none) := I2.out.below (Below.refl _ _).drew
                    clear HTR HTB b2 n0
                    go_region_held3 (fun w' => w'.cell? ⟨X0, 0, none⟩ = some (.int .i64 most) ∧ w'.cell? ⟨X0, 1, none⟩ = some (.slice a.p d.nm.length a.c) ∧ w'.cell? ⟨X0, 2, none⟩ = some (.slice a.pA d.all.length a.cA) ∧ w'.cell? ⟨X0, 3, none⟩ = some (.slice a.pS d.sl.length a.cS)) (go_keep) (first
                      | (go_at_call 19; refine (IA.out.finds sb HSZ.out (by rw [HS.out]; exact HFM.out)).mono ?_; rintro e w5 ⟨rfl, i5⟩; have I5 := Lib.hid i5; obtain ⟨a50, a51, a52, a53⟩ := i5.cells; clear i5)
                      | (go_at_call 22; refine (I5.out.rights hn sb HSZ.out HRB.out HRL.out).mono ?_; rintro e w6 ⟨q6, c6, ⟨rfl, i6⟩, r6, b6⟩; have I6 := Lib.hid i6; have R6 := Lib.hid r6; obtain ⟨a60, a61, a62, a63⟩ := i6.cells; clear i6 r6 b6)
                      | (go_at_call 38; refine (I6.out.rightx hn sb HRB.out HRL.out).mono ?_; rintro e w7 ⟨q7, c7, ⟨rfl, i7⟩, r7, b7⟩; have I7 := Lib.hid i7; have R7 := Lib.hid r7; have R67 := Lib.hid (R6.out.below b7); obtain ⟨a70, a71, a72, a73⟩ := i7.cells; clear i7 r7 b7)
                      | (go_at_call 21; refine (ids_any _ _ rB w7 R67.out R7.out).mono ?_; rintro e w8 ⟨rfl, b8⟩; have I8 := Lib.hid (I7.out.below b8); obtain ⟨a80, a81, a82, a83⟩ := I8.out.cells; clear b8))
                    all_goals
                      go_wp2_with fail
                      go_roundg (M - (i + 1))
                      case measure => have := HR.out; omega
                      case rel => exact ⟨i + 1, by omega, by go_num, I8.out⟩
                  | some z =>
                    have HFM : Hid (findM d.nm s = ((z : Int), 0)) := by unfold Hid findM; rw [if_pos hvb, hfn]
                    have HFN : Hid (idxI (findN d.nm s) = (z : Int)) := by unfold Hid; rw [hfn]; rfl
                    have hz0 : ¬ ((z : Int) < 0) := by omega
                    clear hvb hfn
                    go_upto_region 30 with (first | (go_at_call 36; refine (IS.out.findn sb hl (y := (z : Int)) (by rw [HS.out]; exact HFN.out)).mono ?_; rintro e w1 ⟨rfl, i1⟩; have I1 := Lib.hid i1; obtain ⟨a10, a11, a12, a13⟩ := i1.cells; clear i1) | (go_at_call 37; refine (I1.out.valid sb (b := true) (by rw [HS.out]; exact HVB.out)).mono ?_; rintro e w2 ⟨rfl, i2⟩; have I2 := Lib.hid i2; obtain ⟨a20, a21, a22, a23⟩ := i2.cells; clear i2))
                    have IA : Hid (Isx V w w2.drew S P x most seed R n d a X0 (X0 + 1) #[.int .i64 what, .int .u64 (id : Int), .slice tp ts.length tc, .int .i64 an, .int .i64 ai] none) := I2.out.below (Below.refl _ _).drew
                    clear HTR HTB b2 n0
                    go_region_held3 (fun w' => w'.cell? ⟨X0, 0, none⟩ = some (.int .i64 most) ∧ w'.cell? ⟨X0, 1, none⟩ = some (.slice a.p d.nm.length a.c) ∧ w'.cell? ⟨X0, 2, none⟩ = some (.slice a.pA d.all.length a.cA) ∧ w'.cell? ⟨X0, 3, none⟩ = some (.slice a.pS d.sl.length a.cS)) (go_keep) (first
                      | (go_at_call 19; refine (IA.out.finds sb HSZ.out (by rw [HS.out]; exact HFM.out)).mono ?_; rintro e w5 ⟨rfl, i5⟩; have I5 := Lib.hid i5; obtain ⟨a50, a51, a52, a53⟩ := i5.cells; clear i5)
                      | (go_at_call 22; refine (I5.out.rights hn sb HSZ.out HRB.out HRL.out).mono ?_; rintro e w6 ⟨q6, c6, ⟨rfl, i6⟩, r6, b6⟩; have I6 := Lib.hid i6; have R6 := Lib.hid r6; obtain ⟨a60, a61, a62, a63⟩ := i6.cells; clear i6 r6 b6)
                      | (go_at_call 38; refine (I6.out.rightx hn sb HRB.out HRL.out).mono ?_; rintro e w7 ⟨q7, c7, ⟨rfl, i7⟩, r7, b7⟩; have I7 := Lib.hid i7; have R7 := Lib.hid r7; have R67 := Lib.hid (R6.out.below b7); obtain ⟨a70, a71, a72, a73⟩ := i7.cells; clear i7 r7 b7)
                      | (go_at_call 21; refine (ids_any _ _ rB w7 R67.out R7.out).mono ?_; rintro e w8 ⟨rfl, b8⟩; have I8 := Lib.hid (I7.out.below b8); obtain ⟨a80, a81, a82, a83⟩ := I8.out.cells; clear b8))
                    all_goals
                      go_wp2_with fail
                      go_roundg (M - (i + 1))
                      case measure => have := HR.out; omega
                      case rel => exact ⟨i + 1, by omega, by go_num, I8.out⟩
              · obtain rfl : i = M := by omega
                rw [HM.out] at b2
                have HLZ : Hid (liveE d.all 0 = false) := live_zero IS.out.kr.facts.1.pos
                have HRE : Hid (rightX d.all (ByteArray.mk #[]).data.toList = []) := right_empty (fun e he => (IS.out.kr.facts.1.len e he).2.2)
                clear HTR HTB
                go_wp2_with (first
                  | (go_at_call 22; refine (IS.out.rights hn ⟨#[]⟩ (by decide) HRE.out (by decide)).mono ?_; rintro e w6 ⟨q6, c6, ⟨rfl, i6⟩, r6, b6⟩; have I6 := Lib.hid i6; have R6 := Lib.hid r6; clear i6 r6 b6)
                  | (go_at_call 21; refine (ids_any _ _ [] w6 R6.out (Reads.nil _ _ _)).mono ?_; rintro e w8 ⟨rfl, b8⟩; have I8 := Lib.hid (I6.out.below b8); clear b8)
                  | (go_at_call 32; refine (I8.out.live 0 (by decide) HLZ.out).mono ?_; rintro e w9 ⟨rfl, i9, b9⟩; have I9 := Lib.hid i9; clear i9 b9))
                go_ret
                exact ⟨rfl, I9.out.kr.less (fun g hg => .inl hg), I9.out.only⟩
theorem ris_any {V w : World} {S P : Nat → Prop} {x : Nat} {most seed R : Int} {n : Nat} {d : Dx} {a : Dp} (k : Kr V w S x most seed R n d) (hn : n ≤ 10000) (h : Dix w P d a) (hP : ∀ g, P g → S g) (hl : d.nm.length ≤ 100000) (what : Int) (id : Nat) (tp : Option Addr) (tc : Nat) (ts : List (List UInt8)) (an ai : Int) (hT : Reads w (.slice tp ts.length tc) (ts.map encStr)) (hTo : ∀ g, (Value.slice tp ts.length tc).ownBlock = some g → S g ∨ g < V.heap.size) (htl : ts.length ≤ 1000) (htb : ∀ s ∈ ts, s.length ≤ 1000) :
    Calls Tryz.prog 8 #[.pointer (some ⟨x, 0, none⟩), dixV most d a, .agg #[.int .i64 what, .int .u64 (id : Int), .slice tp ts.length tc, .int .i64 an, .int .i64 ai]] w (KrP V w S x most seed R n d) :=
  ris_gen k hn h hP hl what id tp tc ts an ai (fun W3 ho => only_reads hT ho hTo) htl htb
end Go.Proofs.YtfpkeinknhijaaaGreat
