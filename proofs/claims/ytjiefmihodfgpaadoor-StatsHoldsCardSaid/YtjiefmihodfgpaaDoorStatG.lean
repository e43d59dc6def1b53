/- What is laid for stats; Word, Words, is. -/
import Derived.Test.YtjiefmihodfgpaaDoorStatF
import Derived.Test.YtjiefmihodfgpaaDoorStatNP
import Derived.Lib.LaidTab
namespace Go.Proofs.YtjiefmihodfgpaaDoor
set_option linter.unusedVariables false
open Go.RowKit Go.Maps Go.Sort

def wordsL : List ByteArray := [⟨#[99, 111, 109, 109, 97, 110, 100, 115]⟩, ⟨#[114, 101, 102, 117, 115, 101, 100]⟩, ⟨#[105, 116, 101, 109, 115]⟩, ⟨#[102, 114, 101, 115, 104]⟩, ⟨#[115, 116, 97, 108, 101]⟩, ⟨#[109, 105, 115, 115, 101, 115]⟩, ⟨#[119, 114, 105, 116, 101, 115]⟩, ⟨#[116, 111, 117, 99, 104, 101, 100]⟩, ⟨#[100, 101, 108, 101, 116, 101, 100]⟩, ⟨#[98, 101, 108, 111, 119]⟩, ⟨#[112, 117, 114, 103, 101, 115]⟩, ⟨#[115, 111, 102, 116, 115]⟩, ⟨#[112, 114, 101, 102, 105, 120, 101, 115]⟩, ⟨#[102, 108, 117, 115, 104, 101, 115]⟩, ⟨#[110, 101, 119]⟩, ⟨#[103, 111, 110, 101]⟩]
def wordB (k : Nat) : ByteArray := wordsL.getD k ⟨#[]⟩
structure LaidS (w : World) : Prop where
  ge : 8 ≤ w.heap.size
  tab : Lib.TabIs Tryd.prog w "internal/strconv.uint64pow10" .u64 Lib.pow10Tab
  words : ∀ k, k < 16 → w.cell? ⟨1, k, none⟩ = some (.string (wordB k))
  rows1 : ∀ k, k < 16 → w.cell? ⟨0, k * 2, none⟩ = some (.int .i64 (rowOne k))
  rows2 : ∀ k, k < 16 → w.cell? ⟨0, k * 2 + 1, none⟩ = some (.int .i64 (rowCnt k))
theorem lt_of_cell {w : World} {p : Addr} {x : Value} (h : w.cell? p = some x) : p.block < w.heap.size := by
  rcases Nat.lt_or_ge p.block w.heap.size with h' | h'
  · exact h'
  · simp [World.cell?, Array.getElem?_eq_none h'] at h
theorem var_keep {P : Program} {w w' : World} {n : String} {cs : Array Value} (h : w.var? P n = some cs) (G : Nat) (hn : ∀ g, P.globalNamed n = some g → g < G) (hk : ∀ g, g < G → w'.heap[g]? = w.heap[g]?) : w'.var? P n = some cs := by
  unfold World.var? at h ⊢
  cases hg : P.globalNamed n with
  | none => simp [hg] at h
  | some g =>
    simp only [hg, Option.bind_some] at h ⊢
    rw [hk g (hn g hg)]
    exact h
theorem LaidS.keep {w w' : World} (h : LaidS w) (hk : ∀ g, g < 8 → w'.heap[g]? = w.heap[g]?) (hs : w.heap.size ≤ w'.heap.size) : LaidS w' := by
  have key : ∀ (b o : Nat) (x : Value), b < 8 → w.cell? ⟨b, o, none⟩ = some x → w'.cell? ⟨b, o, none⟩ = some x := fun b o x hp hx => by
    rw [World.cell?_of_block (hk b hp)]
    exact hx
  refine ⟨Nat.le_trans h.ge hs, ?_, fun k hk => key _ _ _ (by decide) (h.words k hk), fun k hk => key _ _ _ (by decide) (h.rows1 k hk), fun k hk => key _ _ _ (by decide) (h.rows2 k hk)⟩
  refine var_keep h.tab 8 (fun g hg => ?_) hk
  obtain rfl := Option.some.inj ((show Tryd.prog.globalNamed "internal/strconv.uint64pow10" = some 2 by kernel_rfl).symm.trans hg)
  decide
theorem LaidS.grown {w w' : World} {b : Nat} (h : LaidS w) (hg : w.grownBy w' (some b)) (hb : 8 ≤ b) : LaidS w' :=
  h.keep (fun g hgl => hg.block g (Nat.lt_of_lt_of_le hgl h.ge) (by intro e; injection e with e; omega)) hg.size
theorem LaidS.below {w w' : World} {B : Nat} (h : LaidS w) (hb : Below B w w') (hB : 8 ≤ B) : LaidS w' :=
  h.keep (fun g hgl => hb.block g (by omega)) hb.size

set_option maxHeartbeats 1000000 in
set_option maxRecDepth 100000 in
theorem word_in (j : Nat) (hj : j < 16) (w : World) (h : LaidS w) :
    Calls Tryd.prog 31 #[.int .i64 j] w fun e w' => e = .returned (.string (wordB j)) ∧ w = w' := by
  have hc := h.words j hj
  generalize wordB j = x at *
  have hj2 : (j : Int) < 16 := by omega
  clear h
  go_enter Tryd.func31, Tryd.ntmps31
  go_wp2
  go_ret
  exact ⟨rfl, rfl⟩
theorem word_out (j : Int) (hj : j < 0 ∨ 16 ≤ j) (w : World) :
    Calls Tryd.prog 31 #[.int .i64 j] w fun e w' => e = .returned (.string ⟨#[]⟩) ∧ w = w' := by
  by_cases h0 : j < 0
  · go_enter Tryd.func31, Tryd.ntmps31
    go_wp2
    go_ret
    exact ⟨rfl, rfl⟩
  · have h1 : 16 ≤ j := by omega
    clear hj
    go_enter Tryd.func31, Tryd.ntmps31
    go_wp2
    go_ret
    exact ⟨rfl, rfl⟩
set_option maxHeartbeats 1000000 in
set_option maxRecDepth 100000 in
theorem words_any (w : World) :
    Calls Tryd.prog 40 #[] w fun e w' => e = .returned (.slice (some ⟨w.heap.size, 0, none⟩) 16 16) ∧ Blk w' w.heap.size 9 (wordsL.map Value.string).toArray ∧ Below w.heap.size w w' := by
  go_enter Tryd.func40, Tryd.ntmps40
  go_wp2
  go_ret
  exact ⟨rfl, Blk.new _ _ _, (Below.refl _ _).alloc (Nat.le_refl _) _⟩
theorem words_cell {w : World} {g j : Nat} (h : Blk w g 9 (wordsL.map Value.string).toArray) (hj : j < 16) : w.cell? ⟨g, j, none⟩ = some (.string (wordB j)) := by
  rw [Blk.cell h j]
  have hl : wordsL.length = 16 := rfl
  simp [wordB, List.getD_eq_getElem?_getD, hl, hj]

set_option maxHeartbeats 2000000 in
set_option maxRecDepth 100000 in
/-- is: the counts have the numbers of a list. -/
theorem is_any (b : Nat) (l : List Int) (v : Value) (w : World) (hL : LaidS w) (hc : CntAt w b l) (hr : Reads w v (u64s l)) :
    Calls Tryd.prog 23 #[.pointer (some ⟨b, 0, none⟩), v] w fun e w' => e = .returned (.bool true) ∧ Below w.heap.size w w' := by
  have hl := hc.1
  have hr0 := hr
  obtain ⟨p, cap, rfl, _, hp⟩ := hr
  rcases hp with h0 | ⟨blk, off, rfl, hblk, _, hcell⟩
  · rw [List.length_map] at h0; omega
  have HC := Lib.hid hc
  have HR := Lib.hid hr0
  have HCELL := Lib.hid hcell
  have HLL := Lib.hid hL
  rw [List.length_map, hl] at HR ⊢
  clear hc hr0 hcell hL
  go_enter Tryd.func23, Tryd.ntmps23
  go_wp2_with fail
  go_loopw [5] (fun i wr => ∃ k : Int, -1 ≤ k ∧ k ≤ 17 ∧ i = .int .i64 k ∧ Below w.heap.size w wr) (fun i _ => (17 - intOf i).toNat)
  case atStart => exact ⟨-1, by omega, by omega, rfl, Below.refl _ _⟩
  case round =>
    obtain ⟨k, hk1, hk2, rfl, hbl⟩ := hrel
    have hLr := HLL.out.below hbl HLL.out.ge
    have hcr : CntAt wr b l := ⟨HC.out.1, Blk.below HC.out.2 hbl (Blk.lt HC.out.2)⟩
    by_cases h17 : k = 17
    · subst h17
      have hrr : Reads wr _ (u64s l) := HR.out.below hbl
      have HRR := Lib.hid hrr
      have HCR := Lib.hid hcr
      clear hrr hcr hLr
      go_wp2_with fail
      refine (numbers_any b l _ HCR.out).mono ?_
      rintro e w2 ⟨v2, rfl, hown, hb2⟩
      have hb3 := hbl.trans (hb2.mono hbl.size)
      have hg := hbl.size
      go_wp2_with fail
      refine (lists_any wr.heap.size v2 _ l l 0 0 _ hb2.size (by omega) hown (HRR.out.below hb2)).mono ?_
      rintro e w3 ⟨rfl, hb4, _⟩
      have hb5 := hb3.trans (hb4.mono hg)
      rw [show (decide (l = l) && (0 : Int) == 0) = true by simp]
      clear hb2 hb3 hb4 hg hown HRR HCR
      go_wp2_with fail
      go_ret
      exact ⟨rfl, hb5⟩
    · by_cases hin : 0 ≤ k ∧ k < 16
      · obtain ⟨j, rfl⟩ := Int.eq_ofNat_of_zero_le hin.1
        have hj : j < 16 := by omega
        have hj2 : (j : Int) < 16 := by omega
        obtain ⟨x, hx⟩ : ∃ x, l.getD j 0 = x := ⟨_, rfl⟩
        have hcx : wr.cell? ⟨blk, off + j, none⟩ = some (.int .u64 x) := by
          rw [hbl.cell (p := ⟨blk, off + j, none⟩) hblk]
          refine HCELL.out j _ (u64s_get ?_)
          rw [← hx, List.getD_eq_getElem?_getD, List.getElem?_eq_getElem (by omega)]; rfl
        have HG : Hid (Calls Tryd.prog 21 #[.pointer (some ⟨b, 0, none⟩), .int .i64 j, .int .u64 x, .int .i64 0] wr fun e w' => e = .returned (.bool true) ∧ wr = w') := gets_in b l j hj x hx wr hcr
        have HW : Hid (Calls Tryd.prog 31 #[.int .i64 j] wr fun e w' => e = .returned (.string (wordB j)) ∧ wr = w') := word_in j hj wr hLr
        have hk16 : ((j : Int) == 16) = false := by rw [beq_eq_false_iff_ne]; omega
        clear hx hcr hLr hin h17 hk1 hk2
        go_wp2_with fail
        refine HG.out.mono ?_
        rintro e w2 ⟨rfl, rfl⟩
        go_wp2_with fail
        refine HW.out.mono ?_
        rintro e w2 ⟨rfl, rfl⟩
        go_wp2_with fail
        refine (words_any _).mono ?_
        rintro e w2 ⟨rfl, hblk2, hb2⟩
        have hcw := words_cell hblk2 hj
        have hb3 := hbl.trans (hb2.mono hbl.size)
        clear hblk2 hb2 hbl HG HW
        generalize wordB j = X at *
        go_wp2_with fail
        go_roundw
        case rel => exact ⟨(j : Int) + 1, by omega, by omega, rfl, hb3⟩
        case measure => simp [intOf]; omega
      · have hout : k = -1 ∨ k = 16 := by omega
        rcases hout with rfl | rfl
        · clear hin h17 hk1 hk2 hcr hLr
          go_wp2_with (first
            | (go_at_call 21; refine (gets_out b (-1) (by decide) _).mono ?_; rintro e w2 ⟨rfl, rfl⟩)
            | (go_at_call 31; refine (word_out (-1) (by decide) _).mono ?_; rintro e w2 ⟨rfl, rfl⟩))
          go_roundw
          case rel => exact ⟨0, by omega, by omega, rfl, hbl⟩
          case measure => simp [intOf]
        · clear hin h17 hk1 hk2 hcr hLr
          go_wp2_with (first
            | (go_at_call 21; refine (gets_out b 16 (by decide) _).mono ?_; rintro e w2 ⟨rfl, rfl⟩)
            | (go_at_call 31; refine (word_out 16 (by decide) _).mono ?_; rintro e w2 ⟨rfl, rfl⟩))
          go_roundw
          case rel => exact ⟨17, by omega, by omega, rfl, hbl⟩
          case measure => simp [intOf]
end Go.Proofs.YtjiefmihodfgpaaDoor
