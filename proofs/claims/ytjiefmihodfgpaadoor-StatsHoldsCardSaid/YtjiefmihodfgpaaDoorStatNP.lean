/- Noting a response, on plain lists. -/
import Derived.Test.YtjiefmihodfgpaaDoorStatP
namespace Go.Proofs.YtjiefmihodfgpaaDoor

def markBad (m : Int) : Bool := decide (m < 0) || decide (2 < m)
def markPlace (m : Int) : Nat := if m = 1 then 3 else if m = 2 then 4 else 5
theorem markPlace_lt (m : Int) : markPlace m < 16 := by unfold markPlace; split <;> (try split) <;> decide
def marksL (l : List Int) (ms : List Int) : List Int := ms.foldl (fun l m => raiseL l (markPlace m) 1) l
theorem marksL_snoc (l ms : List Int) (m : Int) : marksL l (ms ++ [m]) = raiseL (marksL l ms) (markPlace m) 1 := by simp [marksL, List.foldl_append]
def raiseI (l : List Int) (i n : Int) : List Int := if i < 0 then l else raiseL l i.toNat n
def rowsL : List (Int × Int) := [(0, 0), (6, 9), (6, 9), (6, 9), (-1, -1), (-1, -1), (-1, 7), (-1, 8), (10, -1), (11, -1), (12, -1), (-1, 14), (-1, 15), (-1, 9), (13, -1), (-1, -1)]
def rowOne (k : Nat) : Int := (rowsL.getD k (0, 0)).1
def rowCnt (k : Nat) : Int := (rowsL.getD k (0, 0)).2
def rightR (op cnt : Int) (ms : List Int) : Bool := decide (1 ≤ op) && decide (op ≤ 15) && decide (0 ≤ cnt) && !(ms.any markBad)
/-- The counts after a response without an error. -/
def notedL (l : List Int) (op : Nat) (cnt : Int) (ms : List Int) : List Int :=
  raiseI (raiseI (marksL (raiseL (raiseL l 0 1) 2 ms.length) ms) (rowOne op) 1) (rowCnt op) cnt
/-- The counts after a response, and the error. -/
def noteR (l : List Int) (op err cnt : Int) (ms : List Int) : List Int × Int :=
  if rightR op cnt ms = true then (if err = 0 then (notedL l op.toNat cnt ms, 0) else (raiseL l 1 1, 0)) else (l, 2)

theorem one_is : isU 1 := ⟨by omega, by omega⟩
theorem raiseI_is {l : List Int} (h : ∀ x ∈ l, isU x) (i : Int) {n : Int} (hn : isU n) : ∀ x ∈ raiseI l i n, isU x := by
  unfold raiseI
  split
  · exact h
  · exact raiseL_is h _ hn
theorem raiseI_len (l : List Int) (i n : Int) : (raiseI l i n).length = l.length := by
  unfold raiseI
  split
  · rfl
  · exact raiseL_len l _ n
theorem marksL_is {l : List Int} (h : ∀ x ∈ l, isU x) (ms : List Int) : ∀ x ∈ marksL l ms, isU x := by
  induction ms generalizing l with
  | nil => exact h
  | cons m ms ih => exact ih (raiseL_is h _ one_is)
theorem marksL_len (l ms : List Int) : (marksL l ms).length = l.length := by
  induction ms generalizing l with
  | nil => rfl
  | cons m ms ih => exact (ih _).trans (raiseL_len l _ _)
theorem notedL_is {l : List Int} (h : ∀ x ∈ l, isU x) (op : Nat) {cnt : Int} (hc : isU cnt) (ms : List Int) (hm : ms.length ≤ 1000) : ∀ x ∈ notedL l op cnt ms, isU x :=
  raiseI_is (raiseI_is (marksL_is (raiseL_is (raiseL_is h _ one_is) _ ⟨by omega, by omega⟩) ms) _ one_is) _ hc
theorem notedL_len (l : List Int) (op : Nat) (cnt : Int) (ms : List Int) : (notedL l op cnt ms).length = l.length := by
  unfold notedL
  rw [raiseI_len, raiseI_len, marksL_len, raiseL_len, raiseL_len]
theorem noteR_is {l : List Int} (h : ∀ x ∈ l, isU x) (op err : Int) {cnt : Int} (hc : cnt ≤ 9223372036854775807) (ms : List Int) (hm : ms.length ≤ 1000) : ∀ x ∈ (noteR l op err cnt ms).1, isU x := by
  unfold noteR
  split
  · rename_i hr
    have h0 : 0 ≤ cnt := by
      simp only [rightR, Bool.and_eq_true, decide_eq_true_eq] at hr
      exact hr.1.2
    split
    · exact notedL_is h _ ⟨h0, by omega⟩ ms hm
    · exact raiseL_is h _ one_is
  · exact h
theorem noteR_len (l : List Int) (op err cnt : Int) (ms : List Int) : (noteR l op err cnt ms).1.length = l.length := by
  unfold noteR
  split
  · split
    · exact notedL_len ..
    · exact raiseL_len ..
  · rfl
end Go.Proofs.YtjiefmihodfgpaaDoor
