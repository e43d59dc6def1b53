/- few, of layer 19. -/
import Derived.Test.YtfpkeinknhijaaaOpenT
import Derived.Test.YtfpkeinknhijaaaSwpI
import Derived.Deep.CutBlock
/- Lists of lists of strings, and calls of layer 19, as they came in. -/
namespace Go.Proofs.Ytfpkeinknhijaaa
set_option linter.unusedVariables false
open Go Go.ChangeShapes Go.WideShapes Go.RowKit Go.Deep

/-- A list of strings and its place. -/
structure Ts where
  p : Option Addr
  cap : Nat
  ts : List (List UInt8)
instance : Inhabited Ts := ⟨⟨none, 0, []⟩⟩
def TActs (W : World) (q : Option Addr) (L : List Ts) : Prop :=
  ∀ i X, L[i]? = some X → StrsAt W X.p X.cap X.ts ∧ ∃ blk off, q = some ⟨blk, off, none⟩ ∧ blk < W.heap.size ∧ W.cell? ⟨blk, off + i, none⟩ = some (.slice X.p X.ts.length X.cap)
theorem TActs.below {W w : World} {q : Option Addr} {L : List Ts} (h : TActs W q L) (hb : Below W.heap.size W w) : TActs w q L := by
  intro i X hX
  obtain ⟨h1, blk, off, h3, h4, h5⟩ := h i X hX
  exact ⟨h1.below hb, blk, off, h3, Nat.lt_of_lt_of_le h4 hb.size, (hb.cell (p := ⟨blk, off + i, none⟩) h4).trans h5⟩
/-- A call of layer 19. -/
structure Sa where
  what : Int
  id : Nat
  p : Option Addr
  cap : Nat
  ts : List (List UInt8)
  n : Int
instance : Inhabited Sa := ⟨⟨0, 0, none, 0, [], 0⟩⟩
abbrev sacs (X : Sa) : List Value := [.int .i64 X.what, .int .u64 (X.id : Int), .slice X.p X.ts.length X.cap, .int .i64 X.n]
def SaOk (X : Sa) : Prop := X.id ≤ 18446744073709551615 ∧ (-9223372036854775808 ≤ X.what ∧ X.what ≤ 9223372036854775807) ∧ (-9223372036854775808 ≤ X.n ∧ X.n ≤ 9223372036854775807)
def SActs (W : World) (q : Option Addr) (L : List Sa) : Prop :=
  ∀ i X, L[i]? = some X → SaOk X ∧ StrsAt W X.p X.cap X.ts ∧ ∃ blk off, q = some ⟨blk, off, none⟩ ∧ blk < W.heap.size ∧ ∀ j, j < 4 → W.cell? ⟨blk, off + i * 4 + j, none⟩ = (sacs X)[j]?
theorem SActs.below {W w : World} {q : Option Addr} {L : List Sa} (h : SActs W q L) (hb : Below W.heap.size W w) : SActs w q L := by
  intro i X hX
  obtain ⟨h1, h2, blk, off, h3, h4, h5⟩ := h i X hX
  exact ⟨h1, h2.below hb, blk, off, h3, Nat.lt_of_lt_of_le h4 hb.size, fun j hj => (hb.cell (p := ⟨blk, off + i * 4 + j, none⟩) h4).trans (h5 j hj)⟩
section
variable {H : Type} {enc : TypeId × Value → H} {W : World} {base : Nat} {spare : Nat → Bool} {held : Bool} {fuel : Nat} {cs : List Value} {x : DataW H × List MemPlace}
theorem sact_of (h : DataW.trod enc Try.prog W base spare held fuel 78 cs = some x) : ∃ X : Sa, cs = sacs X ∧ StrsAt W X.p X.cap X.ts ∧ SaOk X := by
  obtain ⟨xs, n, _, _, hl, hxl, hf⟩ := DataW.trod_struct Try.underlying78 h
  have hl4 : cs.length = 4 := hl.trans (by kernel_rfl)
  have hx4 : xs.length = 4 := hxl
  obtain ⟨k0, k1, k2, k3, rfl⟩ := tlist4 hl4
  obtain ⟨y0, y1, y2, y3, rfl⟩ := tlist4 hx4
  have f0 := tfield_of hf 0 rfl (u := 3) rfl rfl (by kernel_rfl) rfl rfl
  have f1 := tfield_of hf 1 rfl (u := 29) rfl rfl (by kernel_rfl) rfl rfl
  have f2 := tfield_of hf 2 rfl (u := 31) rfl rfl (by kernel_rfl) rfl rfl
  have f3 := tfield_of hf 3 rfl (u := 3) rfl rfl (by kernel_rfl) rfl rfl
  obtain ⟨z0, e0, _, w0⟩ := DataW.trod_int Try.underlying3 f0
  obtain ⟨z1, e1, _, w1⟩ := DataW.trod_int Try.underlying29 f1
  obtain ⟨p2, cap2, ts, e2, hI⟩ := strs_of f2
  obtain ⟨z3, e3, _, w3⟩ := DataW.trod_int Try.underlying3 f3
  obtain ⟨k, rfl, hk⟩ := nat_u64 w1
  injection e0 with e0
  injection e1 with e1
  injection e2 with e2
  injection e3 with e3
  exact ⟨⟨z0, k, p2, cap2, ts, z3⟩, by rw [e0, e1, e2, e3], hI, hk, bounds_i64 w0, bounds_i64 w3⟩
theorem open_sacts {v : Value} {d : DataW H} {p : List MemPlace} (hv : ∃ a n c, v = .slice a n c) (h : DataW.Trod enc Try.prog W base spare held 79 v d p) : ∃ (L : List Sa) (q : Option Addr) (cap : Nat), v = .slice q L.length cap ∧ SActs W q L := by
  obtain ⟨a0, n0, c0, rfl⟩ := hv
  obtain ⟨fuel, hf⟩ := h
  rcases open_slice Try.underlying79 hf with ⟨hcs, _⟩ | ⟨a, len, cap, m, n, D, Pl, hcs, hb, hlc, _, hm, _, hi⟩
  · simp only [Value.cells] at hcs
    injection hcs with hcs
    rw [hcs]
    exact ⟨[], none, 0, rfl, fun i X h => by simp at h⟩
  · simp only [Value.cells] at hcs
    injection hcs with hcs
    rw [hcs]
    have hlm : len ≤ m := by rw [hm]; split <;> omega
    have c5 : Try.prog.cellsOf 78 = 4 := by kernel_rfl
    rw [c5] at hi
    obtain ⟨V, hV⟩ := choose_lt (α := Sa) (n := len) (p := fun i X => (∀ j, j < 4 → W.cell? ((a.add (i * 4)).add j) = (sacs X)[j]?) ∧ StrsAt W X.p X.cap X.ts ∧ SaOk X) (fun i hil => by
      obtain ⟨cs', h1, h2⟩ := hi i (by omega)
      obtain ⟨_, hcl, hat⟩ := World.cells?_some h1
      obtain ⟨X, rfl, hI, hc⟩ := sact_of h2
      exact ⟨X, fun j hj => hat j (by simpa using hj), hI, hc⟩)
    refine ⟨(List.range len).map V, some a, cap, by simp, fun i X hx => ?_⟩
    rw [List.getElem?_map, Option.map_eq_some_iff] at hx
    obtain ⟨i', hi', rfl⟩ := hx
    have hil : i < len := by
      have := (List.getElem?_eq_some_iff.1 hi').1
      simpa using this
    obtain rfl : i' = i := by
      rw [List.getElem?_range hil] at hi'
      exact (Option.some.inj hi').symm
    obtain ⟨g0, _⟩ := hV 0 (by omega)
    obtain ⟨hs, hlt⟩ := spot_none (a := a) (g0 0 (by decide))
    obtain ⟨blk, off, sp⟩ := a
    simp only at hs hlt
    subst hs
    obtain ⟨e0, e1, e2⟩ := hV i' hil
    simp only [addr_at] at e0
    exact ⟨e2, e1, blk, off, rfl, hlt, e0⟩
theorem open_tacts {v : Value} {d : DataW H} {p : List MemPlace} (hv : ∃ a n c, v = .slice a n c) (h : DataW.Trod enc Try.prog W base spare held 63 v d p) : ∃ (L : List Ts) (q : Option Addr) (cap : Nat), v = .slice q L.length cap ∧ TActs W q L := by
  obtain ⟨a0, n0, c0, rfl⟩ := hv
  obtain ⟨fuel, hf⟩ := h
  rcases open_slice Try.underlying63 hf with ⟨hcs, _⟩ | ⟨a, len, cap, m, n, D, Pl, hcs, hb, hlc, _, hm, _, hi⟩
  · simp only [Value.cells] at hcs
    injection hcs with hcs
    rw [hcs]
    exact ⟨[], none, 0, rfl, fun i X h => by simp at h⟩
  · simp only [Value.cells] at hcs
    injection hcs with hcs
    rw [hcs]
    have hlm : len ≤ m := by rw [hm]; split <;> omega
    have c5 : Try.prog.cellsOf 31 = 1 := by kernel_rfl
    rw [c5] at hi
    obtain ⟨V, hV⟩ := choose_lt (α := Ts) (n := len) (p := fun i X => W.cell? ((a.add (i * 1)).add 0) = some (.slice X.p X.ts.length X.cap) ∧ StrsAt W X.p X.cap X.ts) (fun i hil => by
      obtain ⟨cs', h1, h2⟩ := hi i (by omega)
      obtain ⟨_, hcl, hat⟩ := World.cells?_some h1
      obtain ⟨p, cap, ts, rfl, hI⟩ := strs_of h2
      exact ⟨⟨p, cap, ts⟩, hat 0 (by decide), hI⟩)
    refine ⟨(List.range len).map V, some a, cap, by simp, fun i X hx => ?_⟩
    rw [List.getElem?_map, Option.map_eq_some_iff] at hx
    obtain ⟨i', hi', rfl⟩ := hx
    have hil : i < len := by
      have := (List.getElem?_eq_some_iff.1 hi').1
      simpa using this
    obtain rfl : i' = i := by
      rw [List.getElem?_range hil] at hi'
      exact (Option.some.inj hi').symm
    obtain ⟨g0, _⟩ := hV 0 (by omega)
    obtain ⟨hs, hlt⟩ := spot_none (a := a) g0
    obtain ⟨blk, off, sp⟩ := a
    simp only at hs hlt
    subst hs
    obtain ⟨e0, e1⟩ := hV i' hil
    simp only [addr_at, Nat.mul_one, Nat.add_zero] at e0
    exact ⟨e1, blk, off, rfl, hlt, e0⟩
end
end Go.Proofs.Ytfpkeinknhijaaa
namespace Go.Proofs.Ytfpkeinknhijaaa
set_option linter.unusedVariables false
open Go.RowKit Go.Maps Go.Sort

def SewOk (L : List Sa) : Prop := L.length ≤ 50 ∧ ∀ X ∈ L, X.ts.length ≤ 20 ∧ X.n ≤ 100 ∧ ∀ s ∈ X.ts, s.length ≤ 100
open Classical in
noncomputable def sewB (L : List Sa) : Bool := decide (SewOk L)
open Classical in
theorem sewB_no {L : List Sa} (h : ¬ SewOk L) : sewB L = false := by unfold sewB; exact decide_eq_false h
open Classical in
theorem sewB_yes {L : List Sa} (h : sewB L = true) : SewOk L := by unfold sewB at h; exact of_decide_eq_true h
def SewP (w : World) (L : List Sa) (e : Ending) (w' : World) : Prop := e = .returned (.bool (sewB L)) ∧ w = w'
set_option maxHeartbeats 4000000 in
set_option maxRecDepth 100000 in
theorem sew_any (q : Option Addr) (cap : Nat) (L : List Sa) (w : World) (h : SActs w q L) :
    Calls Try.prog 35 #[.slice q L.length cap] w (SewP w L) := by
  have HR := Lib.hid h
  obtain ⟨N, hN⟩ : ∃ N, L.length = N := ⟨_, rfl⟩
  have HN := Lib.hid hN
  rw [hN]
  clear h hN
  go_enter Try.func35, Try.ntmps35
  go_wp2_with fail
  go_loopg [3] N (fun r v wr => ∃ k : Nat, r + k = N ∧ v = .int .i64 (k : Int) ∧ k ≤ 51 ∧ w = wr ∧ ∀ X ∈ L.take k, X.ts.length ≤ 20 ∧ X.n ≤ 100 ∧ ∀ s ∈ X.ts, s.length ≤ 100)
  case atStart => exact ⟨0, by omega, rfl, by omega, rfl, fun X hX => by simp at hX⟩
  case round =>
    obtain ⟨k, hk, rfl, hk41, rfl, hok⟩ := hrel
    have HK := Lib.hid hk
    have HOK := Lib.hid hok
    have hkn : k ≤ N := by omega
    clear hk hok
    by_cases hlt : k < N
    · by_cases h41 : k < 51
      · have hlt2 : k < L.length := by rw [HN.out]; exact hlt
        obtain ⟨X, hX⟩ : ∃ X, L[k]? = some X := ⟨_, List.getElem?_eq_getElem hlt2⟩
        obtain ⟨hok1, hst, blk, off, rfl, hbl, hc⟩ := HR.out k X hX
        have c2 := hc 2 (by decide)
        have c3 := hc 3 (by decide)
        simp only [sacs, List.getElem?_cons_succ, List.getElem?_cons_zero] at c2 c3
        have HST := Lib.hid hst
        have HX := Lib.hid hX
        obtain ⟨T, hT⟩ : ∃ T, X.ts.length = T := ⟨_, rfl⟩
        rw [hT] at c2
        have HT := Lib.hid hT
        clear hc hok1 hst hX hT
        by_cases h20 : T ≤ 20
        · have h20' : ¬ (20 : Int) < (T : Int) := by omega
          by_cases hn1 : 100 < X.n
          · go_wp2_with fail
            go_ret
            have hF : sewB L = false := sewB_no (fun h => by
              have := (h.2 X (List.mem_of_getElem? HX.out)).2.1
              omega)
            exact ⟨by rw [hF]; first | done | rfl, rfl⟩
          go_wp2_with fail
          go_loopg [4] T (fun r v wr => ∃ j : Nat, r + j = T ∧ v = .int .i64 (j : Int) ∧ w = wr ∧ ∀ s ∈ X.ts.take j, s.length ≤ 100)
          case atStart => exact ⟨0, by omega, rfl, rfl, fun s hs => by simp at hs⟩
          case round =>
            obtain ⟨j, hj, rfl, rfl, hjs⟩ := hrel
            have HJ := Lib.hid hj
            have HJS := Lib.hid hjs
            have hjn : j ≤ T := by omega
            clear hj hjs
            by_cases hjl : j < T
            · have hjl2 : j < X.ts.length := by rw [HT.out]; exact hjl
              obtain ⟨s, hs⟩ : ∃ s, X.ts[j]? = some s := ⟨_, List.getElem?_eq_getElem hjl2⟩
              obtain ⟨tbk, tof, hp, htl, hcs⟩ := HST.out.at_ hs
              rw [hp] at c2
              have hsz : (⟨s.toArray⟩ : ByteArray).size = s.length := by show s.toArray.size = _; simp
              have HS := Lib.hid hs
              have HSZ := Lib.hid hsz
              clear hs hp
              generalize (⟨s.toArray⟩ : ByteArray) = sb at *
              by_cases h100 : sb.size ≤ 100
              · have h100' : ¬ (100 : Int) < (sb.size : Int) := by omega
                clear hsz
                go_wp2_with fail
                go_roundg (T - (j + 1))
                case measure => have := HJ.out; omega
                case rel =>
                  refine ⟨j + 1, by omega, by go_num, rfl, fun s' hs' => ?_⟩
                  rw [List.take_add_one, HS.out] at hs'
                  rcases List.mem_append.1 hs' with h | h
                  · exact HJS.out s' h
                  · simp at h
                    rw [h, ← HSZ.out]
                    exact h100
              · have h100' : (100 : Int) < (sb.size : Int) := by omega
                clear hsz
                go_wp2_with fail
                go_ret
                have hF : sewB L = false := sewB_no (fun h => by
                  have := (h.2 X (List.mem_of_getElem? HX.out)).2.2 s (List.mem_of_getElem? HS.out)
                  rw [← HSZ.out] at this
                  omega)
                exact ⟨by rw [hF]; first | done | rfl, rfl⟩
            · obtain rfl : j = T := by omega
              go_wp2_with fail
              go_roundg (N - (k + 1))
              case measure => have := HK.out; omega
              case rel =>
                refine ⟨k + 1, by omega, by go_num, by omega, rfl, fun Y hY => ?_⟩
                rw [List.take_add_one, HX.out] at hY
                rcases List.mem_append.1 hY with h | h
                · exact HOK.out Y h
                · simp at h
                  rw [h]
                  refine ⟨by rw [HT.out]; exact h20, by omega, fun s hs => HJS.out s ?_⟩
                  rw [List.take_of_length_le (by rw [HT.out]; exact Nat.le_refl _)]
                  exact hs
        · have h20' : (20 : Int) < (T : Int) := by omega
          go_wp2_with fail
          go_ret
          have hF : sewB L = false := sewB_no (fun h => by
            have := (h.2 X (List.mem_of_getElem? HX.out)).1
            rw [HT.out] at this
            omega)
          exact ⟨by rw [hF]; first | done | rfl, rfl⟩
      · obtain rfl : k = 51 := by omega
        have h40 : decide ((N : Int) ≤ 50) = false := decide_eq_false (by omega)
        have h40b : ¬ (N : Int) ≤ 50 := by omega
        go_wp2_with fail
        go_ret
        have hF : sewB L = false := sewB_no (fun h => by
          have := h.1
          rw [HN.out] at this
          omega)
        exact ⟨by rw [hF]; first | done | rfl | simp, rfl⟩
    · obtain rfl : k = N := by omega
      go_wp2_with fail
      go_ret
      have hF : sewB L = decide ((k : Int) ≤ 50) := by
        unfold sewB
        refine decide_eq_decide.2 ⟨fun h => by have := h.1; rw [HN.out] at this; omega, fun h => ⟨by rw [HN.out]; omega, fun X hX => HOK.out X ?_⟩⟩
        rw [List.take_of_length_le (by rw [HN.out]; exact Nat.le_refl _)]
        exact hX
      exact ⟨by rw [hF]; first | done | rfl, rfl⟩
end Go.Proofs.Ytfpkeinknhijaaa
