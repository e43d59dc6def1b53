/- known: the walk. -/
import Derived.Test.YtjiefmihodfgpaaDoorStatV
namespace Go.Proofs.YtjiefmihodfgpaaDoor
set_option linter.unusedVariables false
open Go.RowKit Go.Maps Go.Sort

abbrev kn3c : Array Value := #[.int .i64 1, .slice none 0 0, .int .u64 0, .int .u64 0, .int .i64 2, .slice none 0 0, .int .u64 0, .int .u64 0, .int .i64 0, .slice none 0 0, .int .u64 0, .int .u64 0]
theorem items3 (w : World) (b : Nat) (hb : b < w.heap.size) : ItemsAt (w.alloc (.cells kn3c 66)) b (some ⟨w.heap.size, 0, none⟩) [1, 2, 0] := by
  have h := Blk.new w 66 kn3c
  intro i m hm
  match i, hm with
  | 0, hm => cases hm; exact ⟨_, 0, none, 0, 0, 0, 0, rfl, Blk.lt h, by omega, Blk.cell h 0, Blk.cell h 1, Blk.cell h 2, Blk.cell h 3⟩
  | 1, hm => cases hm; exact ⟨_, 0, none, 0, 0, 0, 0, rfl, Blk.lt h, by omega, Blk.cell h 4, Blk.cell h 5, Blk.cell h 6, Blk.cell h 7⟩
  | 2, hm => cases hm; exact ⟨_, 0, none, 0, 0, 0, 0, rfl, Blk.lt h, by omega, Blk.cell h 8, Blk.cell h 9, Blk.cell h 10, Blk.cell h 11⟩
  | i + 3, hm => simp at hm

theorem reads_blk {w : World} {g : Nat} {t : TypeId} {cs : Array Value} (h : Blk w g t cs) (l : List Int) (cap : Nat) (hle : l.length ≤ cap) (h1 : l.length ≤ 1000) (hc : ∀ (i : Nat) (x : Value), (u64s l)[i]? = some x → cs[i]? = some x) : Reads w (.slice (some ⟨g, 0, none⟩) l.length cap) (u64s l) := by
  refine ⟨some ⟨g, 0, none⟩, cap, by rw [List.length_map], by rw [List.length_map]; omega, .inr ⟨g, 0, rfl, Blk.lt h, by rw [List.length_map]; exact hle, fun i x hx => ?_⟩⟩
  rw [Nat.zero_add, Blk.cell h i]
  exact hc i x hx
/-- Within known, once the lists stand. -/
structure Sm (w0 w : World) (c gl gz : Nat) : Prop where
  sk : Sk w0 w c knL
  rl : Reads w (.slice (some ⟨gl, 0, none⟩) 16 16) (u64s knL)
  rz : Reads w (.slice (some ⟨gz, 0, none⟩) 16 16) (u64s knZ)
  r5 : Reads w (.slice (some ⟨gz, 0, none⟩) 15 16) (u64s (List.replicate 15 0))
theorem Sm.quiet {w0 w w' : World} {c gl gz : Nat} (s : Sm w0 w c gl gz) (hb : Below w.heap.size w w') : Sm w0 w' c gl gz := ⟨s.sk.quiet hb, s.rl.below hb, s.rz.below hb, s.r5.below hb⟩
theorem knL_is : ∀ x ∈ knL, isU x := isU_of (by decide +kernel)
theorem knZ_is : ∀ x ∈ knZ, isU x := isU_of (by decide +kernel)
theorem knF_is : ∀ x ∈ List.replicate 15 (0 : Int), isU x := isU_of (by decide +kernel)

set_option maxHeartbeats 8000000 in
set_option maxRecDepth 100000 in
theorem known_any (w : World) (hL : LaidS w) :
    Calls Tryd.prog 8 #[] w fun e w' => e = .returned (.bool true) ∧ Below w.heap.size w w' := by
  have HLL := Lib.hid hL
  clear hL
  have hmk : ∀ W : World, (Instr.makeSlice 22 (.int .i64 16) (.int .i64 16)).run Tryd.prog W = .ok (.slice (some ⟨W.heap.size, 0, none⟩) 16 16) (W.alloc (.cells (Go.madeCells #[Value.int .u64 0] 16) 27)) := run_make_row' (P := Tryd.prog) 22 27 (.int .u64 0) 8 Tryd.underlying22 info_u64 rfl .i64 .i64 16 (by decide) (by decide)
  go_enter Tryd.func8, Tryd.ntmps8
  go_wp2_with fail
  refine (new_any _).mono ?_
  rintro e w1 ⟨rfl, hc1, hb1⟩
  have s1 : Sk w w1 w.heap.size knZ := ⟨HLL.out.below hb1 HLL.out.ge, hc1, isU_of (by decide +kernel), Nat.le_refl _, HLL.out.ge, hb1⟩
  clear hc1 hb1
  go_wp2_with fail
  have hI := items3 w1 w.heap.size (Blk.lt s1.cnt.2)
  have s2 := s1.quiet ((Below.refl _ _).alloc (Nat.le_refl _) (.cells kn3c 66))
  refine (s2.note ⟨5, 0, 0, 0, some ⟨w1.heap.size, 0, none⟩, 3, none, 0, 0⟩ [1, 2, 0] (by decide) (by simp) hI knM 0 kn1).mono ?_
  rintro e w2 ⟨rfl, s3⟩
  clear hI s1 s2
  go_wp2_with fail
  refine (s3.note ⟨1, 0, 0, 3, none, 0, none, 0, 0⟩ [] (by decide) (by decide) (items_nil _ _ _) knN 0 kn2).mono ?_
  rintro e w3 ⟨rfl, s4⟩
  clear s3
  go_wp2_with fail
  refine (s4.note ⟨4, 2, 0, 0, none, 0, none, 0, 0⟩ [] (by decide) (by decide) (items_nil _ _ _) knL 0 kn3).mono ?_
  rintro e w4 ⟨rfl, s5⟩
  clear s4
  go_wp2_with fail
  refine (s5.note ⟨0, 0, 0, 0, none, 0, none, 0, 0⟩ [] (by decide) (by decide) (items_nil _ _ _) knL 2 kn4).mono ?_
  rintro e w5 ⟨rfl, s6⟩
  clear s5
  go_wp2_with fail
  have hbl := Blk.new w5 27 (u64s knL).toArray
  have hbz := Blk.new (w5.alloc (.cells (u64s knL).toArray 27)) 27 (Go.madeCells #[Value.int .u64 0] 16)
  have hbl2 := Blk.alloc hbl (.cells (Go.madeCells #[Value.int .u64 0] 16) 27)
  have em : Go.madeCells #[Value.int .u64 0] 16 = (u64s knZ).toArray := by kernel_rfl
  have hz : (w5.alloc (.cells (u64s knL).toArray 27)).heap.size = w5.heap.size + 1 := by simp
  rw [hz] at hbz
  have s7 : Sm w ((w5.alloc (.cells (u64s knL).toArray 27)).alloc (.cells (Go.madeCells #[Value.int .u64 0] 16) 27)) w.heap.size w5.heap.size (w5.heap.size + 1) := by
    refine ⟨(s6.quiet ((Below.refl _ _).alloc (Nat.le_refl _) _)).quiet ((Below.refl _ _).alloc (Nat.le_refl _) _), ?_, ?_, ?_⟩
    · exact reads_blk hbl2 knL 16 (by decide) (by decide) (fun i x h => by simpa using h)
    · exact reads_blk hbz knZ 16 (by decide) (by decide) (fun i x h => by rw [em]; simpa using h)
    · refine reads_blk hbz (List.replicate 15 0) 16 (by decide) (by decide) (fun i x h => ?_)
      rw [em]
      have h2 : (u64s (List.replicate 15 0))[i]? = (u64s knZ)[i]? := by
        have hi : i < 15 := by have := (List.getElem?_eq_some_iff.1 h).1; simpa using this
        have : ∀ q : Fin 15, (u64s (List.replicate 15 0))[q.val]? = (u64s knZ)[q.val]? := by intro q; match q with | ⟨0, _⟩ | ⟨1, _⟩ | ⟨2, _⟩ | ⟨3, _⟩ | ⟨4, _⟩ | ⟨5, _⟩ | ⟨6, _⟩ | ⟨7, _⟩ | ⟨8, _⟩ | ⟨9, _⟩ | ⟨10, _⟩ | ⟨11, _⟩ | ⟨12, _⟩ | ⟨13, _⟩ | ⟨14, _⟩ => rfl
        exact this ⟨i, hi⟩
      rw [h2] at h
      simpa using h
  clear hbl hbz hbl2 em hz s6
  obtain ⟨W0, hW0⟩ : ∃ W0, (w5.alloc (.cells (u64s knL).toArray 27)).alloc (.cells (Go.madeCells #[Value.int .u64 0] 16) 27) = W0 := ⟨_, rfl⟩
  obtain ⟨c, hcc⟩ : ∃ c, w.heap.size = c := ⟨_, rfl⟩
  rw [hW0, hcc] at s7
  have HN := Lib.hid (numbers_any c knL W0 s7.sk.cnt)
  change Calls _ _ _ ((w5.alloc (.cells (u64s knL).toArray 27)).alloc (.cells (Go.madeCells #[Value.int .u64 0] 16) 27)) _
  rw [hW0]
  simp only [hcc]
  clear hW0
  generalize w5.heap.size + 1 = gz at *
  generalize w5.heap.size = gl at *
  refine HN.out.mono ?_
  rintro e w6 ⟨v1, rfl, hown, b6⟩
  clear HN
  have s8 := s7.quiet b6
  have HLS := Lib.hid (lists_ok W0.heap.size v1 _ knL 0 w6 b6.size (by decide) hown s8.rl)
  clear hown s8
  go_wp2_with fail
  refine HLS.out.mono ?_
  rintro e w7 ⟨rfl, b7, _⟩
  have s9 := s7.quiet (b6.trans b7)
  clear HLS b6 b7 s7
  go_wp2_with fail
  refine (lawRatio_any _ knL (by decide) knL_is (2, 3, 0) kn11 _ s9.rl).mono ?_
  rintro e w8 ⟨rfl, b8⟩
  have s10 := s9.quiet b8
  clear s9 b8
  go_wp2_with fail
  refine (lawRatio_any _ knZ (by decide) knZ_is (0, 0, 9) kn12 _ s10.rz).mono ?_
  rintro e w9 ⟨rfl, b9⟩
  have s11 := s10.quiet b9
  clear s10 b9
  go_wp2_with fail
  have hbs := Blk.new w9 27 (u64s knS).toArray
  have rS := reads_blk hbs knS 16 (by decide) (by decide) (fun i x h => by simpa using h)
  have s12 := s11.quiet ((Below.refl _ _).alloc (Nat.le_refl _) (.cells (u64s knS).toArray 27))
  refine (sums_any _ _ _ _ knL knL (by decide) (by decide) knL_is knL_is (knS, 0) (knZ, 0) kn5 kn6 _ s12.rl s12.rl rS s12.rz).mono ?_
  rintro e w10 ⟨rfl, b10⟩
  have s13 := s12.quiet b10
  clear hbs rS s11 s12 b10
  go_wp2_with fail
  refine (sums_any _ _ _ _ knZ knL (by decide) (by decide) knZ_is knL_is (knL, 0) ([], 3) kn7 kn8 _ s13.rz s13.rl s13.rl (Reads.nil _ _ _)).mono ?_
  rintro e w11 ⟨rfl, b11⟩
  have s14 := s13.quiet b11
  clear s13 b11
  go_wp2_with fail
  refine (sums_any _ _ _ _ knL (List.replicate 15 0) (by decide) (by decide) knL_is knF_is ([], 2) ([], 2) kn9 kn10 _ s14.rl s14.r5 (Reads.nil _ _ _) (Reads.nil _ _ _)).mono ?_
  rintro e w12 ⟨rfl, b12⟩
  have s15 := s14.quiet b12
  clear s14 b12
  go_wp2_with fail
  refine (text_ok _ knL (by decide) knL_is _ s15.sk.laid s15.rl).mono ?_
  rw [knT_is]
  rintro e w13 ⟨rfl, b13⟩
  have s16 := s15.quiet b13
  clear s15 b13
  go_wp2_with fail
  have HW : Hid (∀ W : World, LaidS W → Calls Tryd.prog 31 #[.int .i64 14] W fun e w' => e = .returned (.string ⟨#[110, 101, 119]⟩) ∧ W = w') := fun W h => word_in 14 (by decide) W h
  refine (HW.out _ s16.sk.laid).mono ?_
  rintro e w14 ⟨rfl, rfl⟩
  have t0 : (⟨knT.toArray⟩ : ByteArray).size = 142 := rfl
  have t1 : (⟨knT.toArray⟩ : ByteArray).extract 0 11 = ⟨#[99, 111, 109, 109, 97, 110, 100, 115, 32, 50, 10]⟩ := by decide +kernel
  have t2 : (⟨knT.toArray⟩ : ByteArray).extract 135 142 = ⟨#[103, 111, 110, 101, 32, 48, 10]⟩ := by decide +kernel
  generalize (⟨knT.toArray⟩ : ByteArray) = T at *
  go_wp2_with fail
  refine (word_out 16 (by decide) _).mono ?_
  rintro e w14 ⟨rfl, rfl⟩
  go_wp2_with fail
  refine (gets_in c knL 2 (by decide) 3 rfl _ s16.sk.cnt).mono ?_
  rintro e w14 ⟨rfl, rfl⟩
  go_wp2_with fail
  refine (gets_out c (-1) (by decide) _).mono ?_
  rintro e w14 ⟨rfl, rfl⟩
  go_wp2_with fail
  go_ret
  exact ⟨rfl, hcc ▸ s16.sk.bel⟩
end Go.Proofs.YtjiefmihodfgpaaDoor
