/- The law StatsNotes: it returns true. -/
import Derived.Test.YtjiefmihodfgpaaDoorStatZ
import Derived.Deep.DeepCutAuto
import Derived.Deep.RegionWith
namespace Go.Proofs.YtjiefmihodfgpaaDoor
set_option linter.unusedVariables false
open Go.RowKit Go.Maps Go.Sort

theorem arr_run (a : Addr) (c : Nat) (w : World) : (Instr.arrayAt 46 (.slice (some a) 16 c)).run Tryd.prog w = .ok (.pointer (some a)) w := by kernel_rfl

theorem list16 {α : Type} {l : List α} (h : l.length = 16) : ∃ a0 a1 a2 a3 a4 a5 a6 a7 a8 a9 a10 a11 a12 a13 a14 a15, l = [a0, a1, a2, a3, a4, a5, a6, a7, a8, a9, a10, a11, a12, a13, a14, a15] := by
  match l, h with
  | [a0, a1, a2, a3, a4, a5, a6, a7, a8, a9, a10, a11, a12, a13, a14, a15], _ => exact ⟨a0, a1, a2, a3, a4, a5, a6, a7, a8, a9, a10, a11, a12, a13, a14, a15, rfl⟩
set_option maxHeartbeats 2000000 in
theorem of_ok (g cap : Nat) (l : List Int) (hl : l.length = 16) (w : World) (h : ∀ (i : Nat) (x : Int), l[i]? = some x → w.cell? ⟨g, i, none⟩ = some (.int .u64 x)) :
    Calls Tryd.prog 24 #[.slice (some ⟨g, 0, none⟩) 16 cap] w fun e w' => e = .returned (.tuple #[.pointer (some ⟨w.heap.size, 0, none⟩), .int .i64 0]) ∧ CntAt w' w.heap.size l ∧ Below w.heap.size w w' := by
  obtain ⟨a0, a1, a2, a3, a4, a5, a6, a7, a8, a9, a10, a11, a12, a13, a14, a15, rfl⟩ := list16 hl
  clear hl
  have c0 := h 0 a0 rfl
  have c1 := h 1 a1 rfl
  have c2 := h 2 a2 rfl
  have c3 := h 3 a3 rfl
  have c4 := h 4 a4 rfl
  have c5 := h 5 a5 rfl
  have c6 := h 6 a6 rfl
  have c7 := h 7 a7 rfl
  have c8 := h 8 a8 rfl
  have c9 := h 9 a9 rfl
  have c10 := h 10 a10 rfl
  have c11 := h 11 a11 rfl
  have c12 := h 12 a12 rfl
  have c13 := h 13 a13 rfl
  have c14 := h 14 a14 rfl
  have c15 := h 15 a15 rfl
  have hrun := arr_run ⟨g, 0, none⟩ cap
  clear h
  go_enter Tryd.func24, Tryd.ntmps24
  go_wp2_with fail
  go_ret2
  exact ⟨rfl, ⟨rfl, Blk.new _ _ _⟩, (Below.refl _ _).alloc (Nat.le_refl _) _⟩
theorem of_bad (p : Option Addr) (n cap : Nat) (hn : n ≤ 1000) (h : n ≠ 16) (w : World) :
    Calls Tryd.prog 24 #[.slice p n cap] w fun e w' => e = .returned (.tuple #[.pointer none, .int .i64 2]) ∧ w = w' := by
  have h1 : ((n : Int) == 16) = false := by rw [beq_eq_false_iff_ne]; omega
  clear h
  go_enter Tryd.func24, Tryd.ntmps24
  go_wp2_with fail
  go_ret2
  exact ⟨rfl, rfl⟩

theorem LsAt.grown {w w' : World} {b : Nat} {v : Value} {l : List Int} (s : LsAt w b v l) (hg : w.grownBy w' (some b)) : LsAt w' b v l :=
  ⟨s.reads.only hg (fun c o e => s.ne _ _ _ (by rw [e, List.length_map, s.len]) rfl), s.ne, s.len, s.isu⟩
theorem LsAt.slice {w : World} {b : Nat} {v : Value} {l : List Int} (s : LsAt w b v l) : ∃ p cap, v = .slice p 16 cap := by
  obtain ⟨p, cap, h, _⟩ := s.reads
  rw [List.length_map, s.len] at h
  exact ⟨p, cap, h⟩
/-- Within the walk of notes: the counts behind c, the list, the responses. -/
structure Sg (w0 w : World) (c : Nat) (v : Value) (l : List Int) (q : Option Addr) (L : List (Rp × List Int)) : Prop where
  laid : LaidS w
  cnt : CntAt w c l
  ls : LsAt w c v l
  resp : RespsIn w c q L
  ge : w0.heap.size ≤ c
  g8 : 8 ≤ w0.heap.size
  bel : Below w0.heap.size w0 w
theorem Sg.quiet {w0 w w' : World} {c : Nat} {v : Value} {l : List Int} {q : Option Addr} {L : List (Rp × List Int)} (s : Sg w0 w c v l q L) (hb : Below w.heap.size w w') : Sg w0 w' c v l q L :=
  ⟨s.laid.below hb s.laid.ge, ⟨s.cnt.1, Blk.below s.cnt.2 hb (Blk.lt s.cnt.2)⟩, s.ls.below hb, s.resp.below hb, s.ge, s.g8, s.bel.trans (hb.mono s.bel.size)⟩

theorem is_zero (b g : Nat) (w : World) (hL : LaidS w) (hb : Blk w b 48 (u64s knZ).toArray) (hg : Blk w g 27 (Go.madeCells #[Value.int .u64 0] 16)) :
    Calls Tryd.prog 23 #[.pointer (some ⟨b, 0, none⟩), .slice (some ⟨g, 0, none⟩) 16 16] w fun e w' => e = .returned (.bool true) ∧ Below w.heap.size w w' := by
  have em : Go.madeCells #[Value.int .u64 0] 16 = (u64s knZ).toArray := by kernel_rfl
  exact is_any b knZ _ w hL ⟨by decide, hb⟩ (reads_blk hg knZ 16 (by decide) (by decide) (fun i x h => by rw [em]; simpa using h))
theorem u64s_of {l : List Int} {i : Nat} {x : Int} (h : l[i]? = some x) : (u64s l)[i]? = some (.int .u64 x) := u64s_get h

set_option maxHeartbeats 2000000 in
set_option maxRecDepth 100000 in
theorem notes_16 (p : Option Addr) (cp : Nat) (l : List Int) (h16 : l.length = 16) (q : Option Addr) (cap : Nat) (L : List (Rp × List Int)) (hf : L.length ≤ 40 ∧ ∀ X ∈ L, X.2.length ≤ 20) (hU : ∀ x ∈ l, isU x) (w : World) (hr : Reads w (.slice p 16 cp) (u64s l)) (hR : RespsAt w q L) (hL : LaidS w)
    (HF : Hid (Calls Tryd.prog 14 #[.slice q L.length cap] w fun e w' => e = .returned (.bool true) ∧ w = w')) :
    Calls Tryd.prog 6 #[.slice p 16 cp, .slice q L.length cap] w fun e w' => e = .returned (.bool true) ∧ Below w.heap.size w w' := by
  obtain ⟨i0, hi, hz0, hz1, hz2⟩ := info_parts info_u64
  have HR := Lib.hid hr
  have HRS := Lib.hid hR
  have HL := Lib.hid hL
  have H16 := Lib.hid h16
  have HU := Lib.hid hU
  have HLE := Lib.hid hf
  have hmk : ∀ W : World, (Instr.makeSlice 22 (.int .i64 16) (.int .i64 16)).run Tryd.prog W = .ok (.slice (some ⟨W.heap.size, 0, none⟩) 16 16) (W.alloc (.cells (Go.madeCells #[Value.int .u64 0] 16) 27)) := run_make_row' (P := Tryd.prog) 22 27 (.int .u64 0) 8 Tryd.underlying22 info_u64 rfl .i64 .i64 16 (by decide) (by decide)
  clear hr hR hL hU h16 hf
  go_enter Tryd.func6, Tryd.ntmps6
  go_wp2_with (first
    | (go_at_call 14; refine HF.out.mono ?_; rintro e w1 ⟨rfl, rfl⟩)
    | (at_builtin; refine wpList_append_reads _ rfl _ _ 22 rfl w.heap.size 27 i0 (.int .u64 0) 8 Tryd.underlying22 hi hz0 hz1 hz2 rfl _ _ _ rfl (World.ownsRow_nil _ _ _ _) _ (u64s l) rfl HR.out (one_u64s l) (by rw [List.length_map, H16.out]; unfold maxLen; omega) (by rw [List.length_map, H16.out]; omega) (Nat.le_refl _) ?_; intro v1 w1 hown1 hg1 hat1)
    | fail)
  rw [List.length_map, Nat.zero_add, List.nil_append, H16.out] at hown1
  have b1 : Below w.heap.size w w1 := (Below.refl _ _).grown hg1 (Nat.le_refl _) (fun j hj => by cases hj)
  obtain ⟨g, gc, he, hbg, hgs⟩ := hown1.form (by omega)
  rw [he]
  rw [he] at hown1
  have HC : Hid (∀ (i : Nat) (x : Int), l[i]? = some x → w1.cell? ⟨g, i, none⟩ = some (.int .u64 x)) := fun i x hx => by
    rw [hown1.cellAt i (by have := (List.getElem?_eq_some_iff.1 hx).1; have := H16.out; omega)]
    exact u64s_get hx
  have HO := Lib.hid (of_ok g gc l H16.out w1 HC.out)
  clear hg1 hat1 hi hz0 hz1 hz2 HF he HC
  go_wp2_with fail
  refine HO.out.mono ?_
  rintro e w2 ⟨rfl, hc2, b2⟩
  have b12 := b1.trans (b2.mono b1.size)
  have hgc : g ≠ w1.heap.size := by have := (hown1.lt g rfl).2; omega
  have hcs : w.heap.size ≤ w1.heap.size := b1.size
  have hown2 := ownsRow_below hown1 b2
  have HI := Lib.hid (ids_ok _ _ l w2 (reads_of_own (by rw [H16.out]; exact hown2) (by rw [H16.out]; decide)) (HR.out.below b12))
  clear HO
  go_wp2_with fail
  refine HI.out.mono ?_
  rintro e w3 ⟨rfl, b3⟩
  have b13 := b12.trans (b3.mono b12.size)
  have hc3 : CntAt w3 w1.heap.size l := ⟨hc2.1, Blk.below hc2.2 b3 (Blk.lt hc2.2)⟩
  have hown3 := ownsRow_below hown2 b3
  clear HI hown1 hown2 hc2 b1 b2 b12 b3 hgs
  obtain ⟨c, hcc⟩ : ∃ c, w1.heap.size = c := ⟨_, rfl⟩
  rw [hcc] at hc3 hgc hcs
  simp only [hcc]
  clear hcc
  go_wp2_with fail
  go_loopw [8] (fun i wr => ∃ (k : Nat) (xs : List Int), k ≤ 16 ∧ i = .int .i64 k ∧ wr.ownsRow w.heap.size 27 1 (.slice (some ⟨g, 0, none⟩) 16 gc) 16 (u64s xs) ∧ CntAt wr c l ∧ Below w.heap.size w wr) (fun i _ => 16 - (intOf i).toNat)
  case atStart => exact ⟨0, l, by omega, rfl, hown3, hc3, b13⟩
  case round =>
    clear hown3 hc3 b13
    obtain ⟨k, xs, hk, rfl, hown, hcr, hbl⟩ := hrel
    by_cases hlt : k < 16
    · have hlen : xs.length = 16 := by have := hown.1; rwa [Nat.mul_one, List.length_map] at this
      obtain ⟨x, hx⟩ : ∃ x, xs[k]? = some x := ⟨xs[k], List.getElem?_eq_getElem (by omega)⟩
      have hcell : wr.cell? ⟨g, k, none⟩ = some (.int .u64 x) := by
        rw [hown.cellAt k (by omega)]
        exact u64s_get hx
      have hfz := hown.frozenAt k
      obtain ⟨hown', hgr⟩ := hown.stored k (.int .u64 (IntKind.u64.wrap (x + 1)))
      have hbl' := hbl.setCell (p := ⟨g, k, none⟩) hbg (.int .u64 (IntKind.u64.wrap (x + 1)))
      have hown'' : (wr.setCell ⟨g, k, none⟩ (.int .u64 (IntKind.u64.wrap (x + 1)))).ownsRow w.heap.size 27 1 (.slice (some ⟨g, 0, none⟩) 16 gc) 16 (u64s (xs.set k (IntKind.u64.wrap (x + 1)))) := by
        unfold u64s; rw [List.map_set]; exact hown'
      have hcr' : CntAt (wr.setCell ⟨g, k, none⟩ (.int .u64 (IntKind.u64.wrap (x + 1)))) c l := ⟨hcr.1, Blk.far hcr.2 (Ne.symm hgc) _⟩
      clear hlen hown hbl hgr hown' hx hcr
      go_wp2
      go_roundw
      case rel => exact ⟨k + 1, _, by omega, by go_num, hown'', hcr', hbl'⟩
      case measure => simp [intOf]; omega
    · have s0 : Sg w wr c (.slice p 16 cp) l q L := by
        have hrw : Reads wr (.slice p 16 cp) (u64s l) := HR.out.below hbl
        refine ⟨HL.out.below hbl HL.out.ge, hcr, ⟨hrw, ?_, H16.out, HU.out⟩, (RespsIn.of_at HRS.out hcs).below hbl, hcs, HL.out.ge, hbl⟩
        intro g2 o2 c2 e2
        obtain ⟨p3, c3, e3, _, h3⟩ := HR.out
        injection e2 with e2 _ _
        injection e3 with e3 _ _
        rcases h3 with h3 | ⟨blk, off, h3, h4, _⟩
        · rw [List.length_map, H16.out] at h3; cases h3
        · rw [e3, h3] at e2
          injection e2 with e2
          injection e2 with e2 _ _
          omega
      obtain rfl : k = 16 := by omega
      have s1 := s0.quiet (below_drewN (Below.refl _ _) 1)
      change Sg w wr.drew c (.slice p 16 cp) l q L at s1
      have HIS := Lib.hid (is_any c l (.slice p 16 cp) wr.drew s1.laid s1.cnt s1.ls.reads)
      have S0 := Lib.hid s1
      clear hown hcr hbl hk hlt s0 s1
      go_upto_region 13 with (fail)
      go_cut [74] (fun s wx => s = .bool false ∧ Sg w wx c (.slice p 16 cp) l q L)
      case first =>
        go_region_held3 (fun w' => True ∧ True) (exact ⟨trivial, trivial⟩) (first
          | (go_at_call_of 23 (Value.pointer (some ⟨c, 0, none⟩)); refine HIS.out.mono ?_; rintro e w4 ⟨rfl, b4⟩; have s4 := Lib.hid (S0.out.quiet b4))
          | (go_at_call 15; refine (new_any _).mono ?_; rintro e w5 ⟨rfl, hc5, b5⟩)
          | (go_at_call 23; refine (is_zero _ _ _ ?_ ?_ ?_).mono ?_; (first | exact ((s4.out.quiet b5).quiet ((Below.refl _ _).alloc (Nat.le_refl _) _)).laid | exact ((s4.out.quiet ((Below.refl _ _).alloc (Nat.le_refl _) _)).quiet b5).laid); (first | exact Blk.alloc hc5.2 _ | (have k5 := hc5.2; rw [show (w4.alloc (.cells (Go.madeCells #[Value.int .u64 0] 16) 27)).heap.size = w4.heap.size + 1 from by simp] at k5; exact k5)); (first | exact Blk.new _ _ _ | exact Blk.below (Blk.new _ _ _) b5 (Blk.lt (Blk.new _ _ _))); rintro e w6 ⟨rfl, b6⟩))
        all_goals
          go_wp2_with fail
          go_meet
          first
            | exact ⟨rfl, ((s4.out.quiet b5).quiet ((Below.refl _ _).alloc (Nat.le_refl _) _)).quiet b6⟩
            | exact ⟨rfl, ((s4.out.quiet ((Below.refl _ _).alloc (Nat.le_refl _) _)).quiet b5).quiet b6⟩
      case rest =>
        obtain ⟨rfl, s2⟩ := hcut
        clear HIS S0
        have S2 := Lib.hid s2
        clear s2
        go_wp2_with fail
        go_loopw [0, 9] (fun u i wr => ∃ (k : Nat) (l' : List Int), k ≤ L.length ∧ i = .int .i64 k ∧ Sg w wr c u l' q L) (fun _ i _ => L.length - (intOf i).toNat)
        case atStart => exact ⟨0, l, by omega, rfl, S2.out⟩
        case round =>
          clear S2
          obtain ⟨k, l', hk, rfl, s⟩ := hrel
          by_cases hlt : k < L.length
          · obtain ⟨X, hX⟩ : ∃ X, L[k]? = some X := ⟨L[k], List.getElem?_eq_getElem hlt⟩
            have h20 := HLE.out.2 X (List.mem_of_getElem? hX)
            have hk40 := HLE.out.1
            obtain ⟨R, ms⟩ := X
            obtain ⟨blk, off, hq, hb, hne, hcx, hix, hcn⟩ := s.resp k _ hX
            subst hq
            simp only at h20 hcx hix hcn
            have c0 : wr.cell? ⟨blk, off + k * 6, none⟩ = some (.int .i64 R.op) := hcx 0 (by decide)
            have c1 : wr.cell? ⟨blk, off + k * 6 + 1, none⟩ = some (.int .i64 R.err) := hcx 1 (by decide)
            have c2 : wr.cell? ⟨blk, off + k * 6 + 2, none⟩ = some (.slice R.p ms.length R.cap) := hcx 2 (by decide)
            have c3 : wr.cell? ⟨blk, off + k * 6 + 3, none⟩ = some (.int .u64 R.ver) := hcx 3 (by decide)
            have c4 : wr.cell? ⟨blk, off + k * 6 + 4, none⟩ = some (.int .i64 R.cnt) := hcx 4 (by decide)
            have c5 : wr.cell? ⟨blk, off + k * 6 + 5, none⟩ = some (.slice R.q R.n2 R.c2) := hcx 5 (by decide)
            have HNO := Lib.hid (refNote_any c l' ms u0 R (by omega) wr hix (Blk.lt s.cnt.2) s.ls hcn)
            have HNT : Hid (∀ w2, Sg w w2 c u0 l' (some ⟨blk, off, none⟩) L → Calls Tryd.prog 16 #[.pointer (some ⟨c, 0, none⟩), .agg (rcs R ms.length)] w2 fun e w' => e = .returned (.int .i64 (noteR l' R.op R.err R.cnt ms).2) ∧ CntAt w' c (noteR l' R.op R.err R.cnt ms).1 ∧ w2.grownBy w' (some c)) := fun w2 s2 => by
              obtain ⟨_, _, _, _, _, _, hix2, _⟩ := s2.resp k _ hX
              exact note_any c l' ms R (by omega) s2.ls.isu w2 s2.cnt hix2 s2.laid (Nat.le_trans s2.g8 s2.ge) hcn
            have HXX := Lib.hid hX
            have HS := Lib.hid s
            generalize noteR l' R.op R.err R.cnt ms = NR at *
            obtain ⟨N, ne⟩ := NR
            simp only at HNO HNT
            clear hcx hix hcn hX s
            go_wp2_with fail
            refine HNO.out.mono ?_
            rintro e w4 ⟨v4, rfl, l4, b4⟩
            have S4 := Lib.hid (HS.out.quiet b4)
            have HCO := Lib.hid (copy_any c l' w4 S4.out.cnt)
            have L4 := Lib.hid l4
            clear HS HNO b4 l4 c0 c1 c2 c3 c4 c5
            go_wp2_with fail
            refine HCO.out.mono ?_
            rintro e w5 ⟨rfl, d5, b5⟩
            have S5 := Lib.hid (S4.out.quiet b5)
            have L5 := Lib.hid (L4.out.below b5)
            have D5 := Lib.hid d5
            have hdc : Hid (w4.heap.size ≠ c) := by have := Blk.lt S4.out.cnt.2; exact fun e => by omega
            obtain ⟨_, _, hq, _, _, hcx, _, _⟩ := S5.out.resp k _ HXX.out
            injection hq with hq
            injection hq with hq1 hq2 _
            subst hq1 hq2
            have c0 : w5.cell? ⟨blk, off + k * 6, none⟩ = some (.int .i64 R.op) := hcx 0 (by decide)
            have c1 : w5.cell? ⟨blk, off + k * 6 + 1, none⟩ = some (.int .i64 R.err) := hcx 1 (by decide)
            have c2 : w5.cell? ⟨blk, off + k * 6 + 2, none⟩ = some (.slice R.p ms.length R.cap) := hcx 2 (by decide)
            have c3 : w5.cell? ⟨blk, off + k * 6 + 3, none⟩ = some (.int .u64 R.ver) := hcx 3 (by decide)
            have c4 : w5.cell? ⟨blk, off + k * 6 + 4, none⟩ = some (.int .i64 R.cnt) := hcx 4 (by decide)
            have c5 : w5.cell? ⟨blk, off + k * 6 + 5, none⟩ = some (.slice R.q R.n2 R.c2) := hcx 5 (by decide)
            have HNT2 := Lib.hid (HNT.out w5 S5.out)
            obtain ⟨d, hd⟩ : ∃ d, w4.heap.size = d := ⟨_, rfl⟩
            rw [hd] at D5 hdc
            simp only [hd]
            clear HNT S4 L4 HCO b5 d5 hcx hd
            go_wp2_with fail
            refine HNT2.out.mono ?_
            rintro e w6 ⟨rfl, n6, g6⟩
            have S6 : Hid (Sg w w6 c v4 N (some ⟨blk, off, none⟩) L) :=
              ⟨S5.out.laid.grown g6 (Nat.le_trans S5.out.g8 S5.out.ge), n6, L5.out.grown g6, S5.out.resp.grown g6, S5.out.ge, S5.out.g8, Below.only S5.out.bel g6 S5.out.bel.size S5.out.ge⟩
            have O6 := Lib.hid (S5.out.ls.grown g6)
            have D6 : Hid (CntAt w6 d l') := ⟨D5.out.1, Blk.grown D5.out.2 g6 (fun e => hdc.out (by injection e))⟩
            have HI1 := Lib.hid (is_any c N v4 w6 S6.out.laid S6.out.cnt S6.out.ls.reads)
            clear HNT2 n6 g6 S5 L5 D5 c0 c1 c2 c3 c4 c5
            go_wp2_with fail
            refine HI1.out.mono ?_
            rintro e w7 ⟨rfl, b7⟩
            have S7 := Lib.hid (S6.out.quiet b7)
            have HI2 := Lib.hid (is_any d l' u0 w7 S7.out.laid ⟨D6.out.1, Blk.below D6.out.2 b7 (Blk.lt D6.out.2)⟩ (O6.out.below b7).reads)
            clear S6 O6 D6 HI1 b7
            go_wp2_with fail
            refine HI2.out.mono ?_
            rintro e w8 ⟨rfl, b8⟩
            have s8 := S7.out.quiet b8
            clear HI2 S7 b8
            go_wp2_with fail
            go_roundw
            case rel => (repeat apply Exists.intro); exact ⟨⟨k + 1, N, by omega, by go_num, s8⟩, rfl⟩
            case measure => simp [intOf]; omega
          · obtain rfl : k = L.length := by omega
            have hL1 := s.laid
            have hB1 := s.bel
            clear hlt hk s
            go_wp2_with fail
            refine (known_any _ hL1).mono ?_
            rintro e w9 ⟨rfl, b9⟩
            go_wp2_with fail
            go_ret
            exact ⟨rfl, hB1.trans (b9.mono hB1.size)⟩

/-- The ways of notes that end at known. -/
def NotesP (w : World) (e : Ending) (w' : World) : Prop := e = .returned (.bool true) ∧ Below w.heap.size w w'
set_option maxHeartbeats 2000000 in
set_option maxRecDepth 100000 in
theorem notes_long (p : Option Addr) (n cp : Nat) (h20 : 20 < n) (q : Option Addr) (cap m : Nat) (w : World) (hL : LaidS w) :
    Calls Tryd.prog 6 #[.slice p n cp, .slice q m cap] w fun e w' => e = .returned (.bool true) ∧ Below w.heap.size w w' := by
  have h21 : (20 : Int) < n := by omega
  go_enter Tryd.func6, Tryd.ntmps6
  go_wp2_with fail
  refine (known_any _ hL).mono ?_
  rintro e w9 ⟨rfl, b9⟩
  go_wp2_with fail
  go_ret
  exact ⟨rfl, b9⟩
set_option maxHeartbeats 2000000 in
set_option maxRecDepth 100000 in
theorem notes_many (p : Option Addr) (n cp : Nat) (h20 : n ≤ 20) (q : Option Addr) (cap m : Nat) (w : World) (hL : LaidS w)
    (HF : Hid (Calls Tryd.prog 14 #[.slice q m cap] w fun e w' => e = .returned (.bool false) ∧ w = w')) :
    Calls Tryd.prog 6 #[.slice p n cp, .slice q m cap] w fun e w' => e = .returned (.bool true) ∧ Below w.heap.size w w' := by
  have h21 : ¬ (20 : Int) < n := by omega
  go_enter Tryd.func6, Tryd.ntmps6
  go_wp2_with fail
  refine HF.out.mono ?_
  rintro e w1 ⟨rfl, rfl⟩
  clear HF
  go_wp2_with fail
  refine (known_any _ hL).mono ?_
  rintro e w9 ⟨rfl, b9⟩
  go_wp2_with fail
  go_ret
  exact ⟨rfl, b9⟩
set_option maxHeartbeats 2000000 in
set_option maxRecDepth 100000 in
theorem notes_other (p : Option Addr) (n cp : Nat) (l : List Int) (hln : l.length = n) (h16 : n ≠ 16) (h20 : n ≤ 20) (q : Option Addr) (cap m : Nat) (w : World) (hr : Reads w (.slice p n cp) (u64s l)) (hL : LaidS w)
    (HF : Hid (Calls Tryd.prog 14 #[.slice q m cap] w fun e w' => e = .returned (.bool true) ∧ w = w')) :
    Calls Tryd.prog 6 #[.slice p n cp, .slice q m cap] w fun e w' => e = .returned (.bool true) ∧ Below w.heap.size w w' := by
  obtain ⟨i0, hi, hz0, hz1, hz2⟩ := info_parts info_u64
  have HR := Lib.hid hr
  have HLN := Lib.hid hln
  have HL := Lib.hid hL
  have h21 : ¬ (20 : Int) < n := by omega
  have h161 : ((n : Int) == 16) = false := by rw [beq_eq_false_iff_ne]; omega
  have H162 := Lib.hid h16
  clear hr hL hln h16
  go_enter Tryd.func6, Tryd.ntmps6
  go_wp2_with (first
    | (go_at_call 14; refine HF.out.mono ?_; rintro e w1 ⟨rfl, rfl⟩)
    | (at_builtin; refine wpList_append_reads _ rfl _ _ 22 rfl w.heap.size 27 i0 (.int .u64 0) 8 Tryd.underlying22 hi hz0 hz1 hz2 rfl _ _ _ rfl (World.ownsRow_nil _ _ _ _) _ (u64s l) rfl HR.out (one_u64s l) (by rw [List.length_map, HLN.out]; unfold maxLen; omega) (by rw [List.length_map, HLN.out]; omega) (Nat.le_refl _) ?_; intro v1 w1 hown1 hg1 hat1)
    | fail)
  rw [List.length_map, Nat.zero_add, List.nil_append] at hown1
  have b1 : Below w.heap.size w w1 := (Below.refl _ _).grown hg1 (Nat.le_refl _) (fun j hj => by cases hj)
  have r1 := reads_of_own hown1 (by rw [HLN.out]; omega)
  have e1 : ∃ p1 c1, v1 = .slice p1 n c1 := by
    obtain ⟨p1, c1, e, _⟩ := r1
    rw [List.length_map, HLN.out] at e
    exact ⟨p1, c1, e⟩
  obtain ⟨p1, c1, e1⟩ := e1
  rw [e1]
  rw [e1] at r1
  have HO := Lib.hid (of_bad p1 n c1 (by omega) H162.out w1)
  have HI := Lib.hid (ids_ok _ _ l w1 r1 (HR.out.below b1))
  clear hown1 hg1 hat1 HF hi hz0 hz1 hz2 e1
  go_wp2_with fail
  refine HO.out.mono ?_
  rintro e w2 ⟨rfl, rfl⟩
  clear HO
  go_wp2_with fail
  refine HI.out.mono ?_
  rintro e w3 ⟨rfl, b3⟩
  have b13 := b1.trans (b3.mono b1.size)
  clear HI b3 b1 r1
  go_wp2_with fail
  refine (known_any _ (HL.out.below b13 HL.out.ge)).mono ?_
  rintro e w9 ⟨rfl, b9⟩
  go_wp2_with fail
  go_ret
  exact ⟨rfl, b13.trans (b9.mono b13.size)⟩
theorem notes_walk (v : Value) (l : List Int) (rl : ∀ x ∈ l, (Lit.int .u64 x).wf = true) (q : Option Addr) (cap : Nat) (L : List (Rp × List Int)) (w : World) (hr : Reads w v (l.map (Value.int .u64))) (hR : RespsAt w q L) (hL : LaidS w) :
    Calls Tryd.prog 6 #[v, .slice q L.length cap] w fun e w' => e = .returned (.bool true) ∧ Below w.heap.size w w' := by
  have hr0 := hr
  obtain ⟨p, cp, rfl, _⟩ := hr
  rw [List.length_map] at hr0 ⊢
  by_cases h20 : 20 < l.length
  · exact notes_long p _ cp h20 q cap L.length w hL
  · have hf := few_any q cap L w hR
    unfold FewP at hf
    rcases Bool.eq_false_or_eq_true (fewR L) with hb | hb
    rotate_left
    · rw [hb] at hf
      exact notes_many p _ cp (by omega) q cap L.length w hL (Lib.hid hf)
    · rw [hb] at hf
      have hb := fewR_true hb
      have hf := Lib.hid hf
      by_cases h16 : l.length = 16
      · have hU := isU_of_wf rl
        rw [h16] at hr0 ⊢
        exact notes_16 p cp l h16 q cap L hb hU w hr0 hR hL hf
      · exact notes_other p _ cp l rfl h16 (by omega) q cap L.length w hr0 hL hf
end Go.Proofs.YtjiefmihodfgpaaDoor
