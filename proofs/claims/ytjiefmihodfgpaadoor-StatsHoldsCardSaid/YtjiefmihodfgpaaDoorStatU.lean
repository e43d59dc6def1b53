/- The program's Text. -/
import Derived.Test.YtjiefmihodfgpaaDoorStatG
import Derived.Test.YtjiefmihodfgpaaDoorStatJ
import Derived.Test.YtjiefmihodfgpaaDoorWs
import Derived.Test.YtjiefmihodfgpaaDoorFmtUint
import Derived.Lib.ItoaLen
import Derived.Deep.RegionHeld3
namespace Go.Proofs.YtjiefmihodfgpaaDoor
set_option linter.unusedVariables false
open Go.RowKit Go.Maps Go.Sort

theorem isB_below {B b : Nat} {bs : List Value} {w w' : World} (h : IsB B b bs w) (hb : Below w.heap.size w w') : IsB B b bs w' := by
  rcases h with ⟨hB, v, hbk, hown, hne⟩ | ⟨hB, v, hbk, hown, hne⟩
  · exact .inl ⟨hB, v, (hb.block b (Array.getElem?_eq_some_iff.1 hbk).1).trans hbk, ownsRow_below hown hb, hne⟩
  · exact .inr ⟨hB, v, (hb.block b (Array.getElem?_eq_some_iff.1 hbk).1).trans hbk, ownsRow_below hown hb, hne⟩
/-- One line of the text, and the lines of the first k places. -/
def lineB (j : Nat) (n : Int) : List UInt8 := (wordB j).data.toList ++ [32] ++ Lib.decDigits n.toNat ++ [10]
def textTo (l : List Int) : Nat → List UInt8
  | 0 => []
  | k + 1 => textTo l k ++ lineB k (l.getD k 0)
theorem wordB_size (j : Nat) : (wordB j).size ≤ 8 := by
  by_cases h : j < 16
  · have : ∀ q : Fin 16, (wordB q.val).size ≤ 8 := by decide +kernel
    exact this ⟨j, h⟩
  · have : wordB j = ⟨#[]⟩ := by
      unfold wordB
      rw [List.getD_eq_getElem?_getD, List.getElem?_eq_none (by show 16 ≤ j; omega)]
      rfl
    rw [this]
    decide
theorem lineB_len (j : Nat) (n : Int) (h : isU n) : (lineB j n).length ≤ 30 := by
  have h1 := wordB_size j
  have h2 := Lib.nDigits_le20 n.toNat (by have := h.2; omega)
  have h3 : (wordB j).data.toList.length = (wordB j).size := by simp
  simp only [lineB, List.length_append, List.length_cons, List.length_nil, Lib.decDigits_length, h3]
  omega
theorem textTo_len (l : List Int) (h : ∀ x ∈ l, isU x) (k : Nat) : (textTo l k).length ≤ 30 * k := by
  induction k with
  | zero => simp [textTo]
  | succ k ih =>
    have := lineB_len k _ (getD_is h k)
    simp only [textTo, List.length_append]
    omega

theorem text_bad (p : Option Addr) (n cap : Nat) (hn : n ≤ 1000) (h : n ≠ 16) (w : World) :
    Calls Tryd.prog 26 #[.slice p n cap] w fun e w' => e = .returned (.tuple #[.string ⟨#[]⟩, .int .i64 2]) ∧ w = w' := by
  have h1 : ((n : Int) == 16) = false := by rw [beq_eq_false_iff_ne]; omega
  go_enter Tryd.func26, Tryd.ntmps26
  go_wp2
  go_ret2
  exact ⟨rfl, rfl⟩
set_option maxHeartbeats 4000000 in
set_option maxRecDepth 100000 in
theorem text_ok (v : Value) (l : List Int) (hl : l.length = 16) (hU : ∀ x ∈ l, isU x) (w : World) (hL : LaidS w) (hr : Reads w v (u64s l)) :
    Calls Tryd.prog 26 #[v] w fun e w' => e = .returned (.tuple #[.string ⟨(textTo l 16).toArray⟩, .int .i64 0]) ∧ Below w.heap.size w w' := by
  obtain ⟨b1, o1, c1, rfl, hb1, hc1⟩ := reads16 hr hl
  have HC1 := Lib.hid hc1
  have HU := Lib.hid hU
  have HLL := Lib.hid hL
  clear hc1 hr hU hL
  have hB0 : IsB w.heap.size w.heap.size (Lib.byteCells []) (w.alloc (.cells #[.pointer none, .slice none 0 0] 84)) := Lib.fresh_isBuilder _ _ w
  have hA0 : Below w.heap.size w (w.alloc (.cells #[.pointer none, .slice none 0 0] 84)) := (Below.refl _ _).alloc (Nat.le_refl _) _
  go_enter Tryd.func26, Tryd.ntmps26
  go_wp2_with fail
  go_loopw [12] (fun i wr => ∃ k : Nat, k ≤ 16 ∧ i = .int .i64 k ∧ IsB w.heap.size w.heap.size (Lib.byteCells (textTo l k)) wr ∧ Below w.heap.size w wr) (fun i _ => 16 - (intOf i).toNat)
  case atStart => exact ⟨0, by omega, rfl, hB0, hA0⟩
  case round =>
    obtain ⟨k, hk, rfl, hB, hbl⟩ := hrel
    clear hB0 hA0
    have hs0 := hbl.size
    by_cases hlt : k < 16
    · obtain ⟨x, hx⟩ : ∃ x, l[k]? = some x := ⟨l[k], List.getElem?_eq_getElem (by omega)⟩
      have hux := HU.out x (List.mem_of_getElem? hx)
      obtain ⟨hx1, hx2⟩ := hux
      obtain ⟨u, rfl⟩ := Int.eq_ofNat_of_zero_le hx1
      have hu : u < 18446744073709551616 := by omega
      have cx : wr.cell? ⟨b1, o1 + k, none⟩ = some (.int .u64 u) := by
        rw [hbl.cell (p := ⟨b1, o1 + k, none⟩) hb1]; exact HC1.out k _ hx
      have hLr := HLL.out.below hbl HLL.out.ge
      have cw := hLr.words k hlt
      have hstep : Hid (textTo l (k + 1) = textTo l k ++ ((wordB k).data.toList ++ [32] ++ Lib.decDigits u ++ [10])) := by
        show textTo l k ++ lineB k (l.getD k 0) = _
        rw [List.getD_eq_getElem?_getD, hx]
        rfl
      have hlen : (Lib.byteCells (textTo l k)).length ≤ 480 := by
        rw [Lib.byteCells_length]
        have := textTo_len l HU.out k
        omega
      have hws := wordB_size k
      have hds : (Lib.decDigits u).length ≤ 20 := by rw [Lib.decDigits_length]; exact Lib.nDigits_le20 u hu
      have hk16 : (k : Int) < 16 := by omega
      have HF : Hid (Calls Tryd.prog 44 #[.int .u64 u, .int .i64 10] wr.drew fun e w' => e = .returned (.string ⟨(Lib.decDigits u).toArray⟩) ∧ Below wr.drew.heap.size wr.drew w') :=
        formatUint_any u hu wr.drew (hLr.below (below_drewN (Below.refl _ _) 1) hLr.ge).tab
      have HB : Hid (IsB w.heap.size w.heap.size (Lib.byteCells (textTo l k)) wr.drew) := hB
      have HBL : Hid (Below w.heap.size w wr.drew) := below_drewN hbl 1
      generalize wordB k = X at *
      have cwd : wr.drew.cell? ⟨1, k, none⟩ = some (.string X) := cw
      have h1lt : 1 < wr.drew.heap.size := lt_of_cell cwd
      have z1 : (X ++ ⟨#[32]⟩ : ByteArray).size = X.size + 1 := by rw [ByteArray.size_append]; rfl
      have z2 : (⟨(Lib.decDigits u).toArray⟩ : ByteArray).size = (Lib.decDigits u).length := rfl
      have z3 : (X ++ ⟨#[32]⟩ ++ ⟨(Lib.decDigits u).toArray⟩ : ByteArray).size = X.size + 1 + (Lib.decDigits u).length := by rw [ByteArray.size_append, z1]; rfl
      have z0 : (⟨#[32]⟩ : ByteArray).size = 1 := rfl
      have z5 : (⟨#[10]⟩ : ByteArray).size = 1 := rfl
      have HSZ : Hid ((X ++ ⟨#[32]⟩ ++ ⟨(Lib.decDigits u).toArray⟩ ++ ⟨#[10]⟩ : ByteArray).size ≤ 1000) := by
        show _ ≤ _
        rw [ByteArray.size_append, z3, z5]; omega
      have e1 : ∀ W : World, (Op.stringOp .add X ⟨#[32]⟩).run Tryd.prog W = .ok (.string (X ++ ⟨#[32]⟩)) W := fun W => run_string_add_sum W _ _ (by omega)
      have e2 : ∀ W : World, (Op.stringOp .add (X ++ ⟨#[32]⟩) ⟨(Lib.decDigits u).toArray⟩).run Tryd.prog W = .ok (.string (X ++ ⟨#[32]⟩ ++ ⟨(Lib.decDigits u).toArray⟩)) W := fun W => run_string_add_sum W _ _ (by omega)
      have e3 : ∀ W : World, (Op.stringOp .add (X ++ ⟨#[32]⟩ ++ ⟨(Lib.decDigits u).toArray⟩) ⟨#[10]⟩).run Tryd.prog W = .ok (.string (X ++ ⟨#[32]⟩ ++ ⟨(Lib.decDigits u).toArray⟩ ++ ⟨#[10]⟩)) W := fun W => run_string_add_sum W _ _ (by omega)
      clear z1 z2 z3 z0 z5
      have HW : Hid (∀ (w1 : World) (s : ByteArray), s.size ≤ 1000 → IsB w.heap.size w.heap.size (Lib.byteCells (textTo l k)) w1 → Below w.heap.size w w1 → Calls Tryd.prog 43 #[.pointer (some ⟨w.heap.size, 0, none⟩), .string s] w1 fun e w' => e = .returned (.tuple #[.int .i64 s.size, .nilIface]) ∧ IsB w.heap.size w.heap.size (Lib.byteCells (textTo l k) ++ Lib.strCells s) w' ∧ Below w.heap.size w1 w') :=
        fun w1 s hs hi hb => writeString_any _ _ _ s w1 hi (by omega) hb.size
      have HG : 1 < w.heap.size := Nat.lt_of_lt_of_le (by decide) HLL.out.ge
      clear hB hLr hx
      go_wp2_with fail
      go_region_held3 (fun w' => w'.cell? ⟨1, k, none⟩ = some (.string X) ∧ True) (go_keep)
        (first
          | (go_at_call 44; with_reducible refine HF.out.mono ?_; rintro e w1 ⟨rfl, hb1⟩; have cw1 := (hb1.cell h1lt).trans cwd)
          | (go_at_call 43; with_reducible refine (HW.out w1 _ HSZ.out (isB_below HB.out hb1) (HBL.out.trans (hb1.mono HBL.out.size))).mono ?_; rintro e w2 ⟨rfl, hI2, hb2⟩; have cw2 := (hb2.cell (p := ⟨1, k, none⟩) HG).trans cw1))
      have HN : IsB w.heap.size w.heap.size (Lib.byteCells (textTo l (k + 1))) w2 := by
        rw [hstep.out]
        have e : Lib.byteCells (textTo l k ++ (X.data.toList ++ [32] ++ Lib.decDigits u ++ [10])) = Lib.byteCells (textTo l k) ++ Lib.strCells (X ++ ⟨#[32]⟩ ++ ⟨(Lib.decDigits u).toArray⟩ ++ ⟨#[10]⟩) := by
          simp [Lib.byteCells, Lib.strCells]
        rw [e]; exact hI2
      have hb3 := (HBL.out.trans (hb1.mono HBL.out.size)).trans hb2
      clear hI2 hb1 hb2 cw1 cw2 cwd
      go_wp2_with fail
      go_roundw
      case rel => exact ⟨k + 1, by omega, by go_num, HN, hb3⟩
      case measure => simp [intOf]; omega
    · obtain rfl : k = 16 := by omega
      have HS := Lib.hid (Tryd.Builder_String_any w.heap.size w.heap.size (textTo l 16) wr hB hs0)
      clear hB
      go_wp2_with fail
      refine HS.out.mono ?_
      rintro e w2 ⟨rfl, hb2⟩
      go_wp2_with fail
      go_ret2
      exact ⟨rfl, hbl.trans hb2⟩
end Go.Proofs.YtjiefmihodfgpaaDoor
