/- Contracts of both functions Cost and of what they call. -/
import Derived.Test.YtnfehdcinmgnjaaAccC
import Derived.Test.YtnfehdcinmgnjaaTags
import Derived.Test.YtnfehdcinmgnjaaCostP
import Derived.Deep.QuietTactic
import Derived.BigQuiet
import Derived.WalkLawsBesides
import Derived.Deep.OwnRows
namespace Go.Proofs.Ytnfehdcinmgnjaa
set_option linter.unusedVariables false
open Go.RowKit Go.Maps Go.Sort

theorem kValid_cases (n : Nat) : (n = 0 ∧ kValid n = false) ∨ (1 ≤ n ∧ n ≤ 250 ∧ kValid n = true) ∨ (250 < n ∧ kValid n = false) := by
  unfold kValid; simp; omega
set_option maxHeartbeats 400000 in
theorem keyValid_any (s : ByteArray) (w : World) :
    Calls Try.prog 36 #[.string s] w fun e w' => e = .returned (.bool (kValid s.size)) ∧ w = w' := by
  rcases kValid_cases s.size with ⟨h, hv⟩ | ⟨h, h2, hv⟩ | ⟨h, hv⟩
  all_goals
    have HV := Lib.hid hv
    have h' : 0 < s.size ∨ s.size = 0 := by omega
    have h3 : s.size < 1 ∨ 1 ≤ s.size := by omega
    clear hv
    go_enter Try.func36, Try.ntmps36
    go_wp2
    go_ret
    rw [HV.out]
    refine ⟨?_, rfl⟩
    first | rfl | (simp; omega)
set_option maxHeartbeats 400000 in
theorem refValid_any (s : ByteArray) (w : World) :
    Calls Try.prog 28 #[.string s] w fun e w' => e = .returned (.bool (kValid s.size)) ∧ w = w' := by
  rcases kValid_cases s.size with ⟨h, hv⟩ | ⟨h, h2, hv⟩ | ⟨h, hv⟩
  all_goals
    have HV := Lib.hid hv
    have h' : 0 < s.size ∨ s.size = 0 := by omega
    have h3 : s.size < 1 ∨ 1 ≤ s.size := by omega
    clear hv
    go_enter Try.func28, Try.ntmps28
    go_wp2
    go_ret
    rw [HV.out]
    refine ⟨?_, rfl⟩
    first | rfl | (simp; omega)
set_option maxHeartbeats 400000 in
theorem refTagOk_any (x : Bt) (w : World) :
    Calls Try.prog 29 #[.string ⟨x.toArray⟩] w fun e w' => e = .returned (.bool (tagOk x)) ∧ w' = w := by
  have hsz : (⟨x.toArray⟩ : ByteArray).size = x.length := by show x.toArray.size = _; simp
  rcases tagOk_cases x with ⟨h, hv⟩ | ⟨h, h2, hv⟩ | ⟨h, hv⟩
  all_goals
    have HV := Lib.hid hv
    have h' : 0 < x.length ∨ x.length = 0 := by omega
    have h3 : x.length < 1 ∨ 1 ≤ x.length := by omega
    clear hv
    go_enter Try.func29, Try.ntmps29
    go_wp2
    go_ret
    rw [HV.out]
    refine ⟨?_, rfl⟩
    first | rfl | (simp; omega)

/-- slices.Equal at two slices that read as lists of strings. -/
theorem equal_any (va vb : Value) (la lb : List Bt) (w : World) (ha : Reads w va (la.map encStr)) (hb : Reads w vb (lb.map encStr)) :
    Calls Try.prog 37 #[va, vb] w fun e w' => e = .returned (.bool (decide (la = lb))) ∧ Below w.heap.size w w' := by
  obtain ⟨pa, ca, rfl, hla, ha2⟩ := ha
  obtain ⟨pb, cb, rfl, hlb, hb2⟩ := hb
  rw [List.length_map] at hla ha2 hlb hb2 ⊢
  rw [List.length_map]
  by_cases hlen : la.length = lb.length
  · rcases Nat.eq_zero_or_pos la.length with h0 | h0
    · have e1 : la = [] := List.eq_nil_of_length_eq_zero h0
      have e2 : lb = [] := List.eq_nil_of_length_eq_zero (by omega)
      subst e1 e2
      refine (Try.slices_Equal_string_empty pa pb ca 0 cb w (by omega)).mono ?_
      rintro e w' ⟨rfl, rfl⟩
      exact ⟨by simp, Below.refl _ _⟩
    · rcases ha2 with h | ⟨b1, o1, rfl, hb1, hc1, hcell1⟩
      · omega
      rcases hb2 with h | ⟨b2, o2, rfl, hb2', hc2, hcell2⟩
      · omega
      have hx : ∀ (l : List Bt) (b o : Nat), (∀ i x, (l.map encStr)[i]? = some x → w.cell? ⟨b, o + i, none⟩ = some x) →
          ∀ j, j < (l.map fun x => (⟨x.toArray⟩ : ByteArray)).length → w.cell? ⟨b, o + j, none⟩ = some (.string ((l.map fun x => (⟨x.toArray⟩ : ByteArray)).getD j ByteArray.empty)) := by
        intro l b o h j hj
        rw [List.length_map] at hj
        have h2 := h j (encStr l[j]) (by rw [List.getElem?_map, List.getElem?_eq_getElem hj]; rfl)
        rw [h2]
        simp [List.getD, List.getElem?_eq_getElem hj, encStr]
      refine (Try.slices_Equal_string b1 o1 la.length ca b2 o2 lb.length cb (la.map fun x => ⟨x.toArray⟩) (lb.map fun x => ⟨x.toArray⟩) w (by simp) (by simp) (by omega) (by omega) (hx la b1 o1 hcell1) (hx lb b2 o2 hcell2)).mono ?_
      rintro e w' ⟨rfl, q, rfl⟩
      refine ⟨?_, below_drewN (Below.refl _ _) _⟩
      congr 2
      rw [List.take_of_length_le (by simp), List.take_of_length_le (by simp)]
      have inj : ∀ x y : Bt, (⟨x.toArray⟩ : ByteArray) = ⟨y.toArray⟩ → x = y := fun x y h => by
        have := congrArg (fun b : ByteArray => b.data.toList) h
        simpa using this
      have : ((la.map fun x => (⟨x.toArray⟩ : ByteArray)) = lb.map fun x => ⟨x.toArray⟩) ↔ la = lb := by
        refine ⟨fun h => ?_, fun h => by rw [h]⟩
        have h2 := congrArg (List.map fun b : ByteArray => b.data.toList) h
        simpa [List.map_map, Function.comp_def] using h2
      exact decide_eq_decide.2 this
  · refine (Try.slices_Equal_string_lens pa pb la.length ca lb.length cb w hlen).mono ?_
    rintro e w' ⟨rfl, rfl⟩
    refine ⟨?_, Below.refl _ _⟩
    have : ¬ la = lb := fun h => hlen (by rw [h])
    simp [this]

/-- What a walk wants of a list of strings that came in: each cell, by its index. -/
def CellsOf (w : World) (p : Option Addr) (l : List Bt) : Prop :=
  ∀ i x, l[i]? = some x → ∃ blk off, p = some ⟨blk, off, none⟩ ∧ blk < w.heap.size ∧ w.cell? ⟨blk, off + i, none⟩ = some (.string ⟨x.toArray⟩)
theorem cellsOf_reads {w : World} {p : Option Addr} {l : List Bt} {n cap : Nat} (h : Reads w (.slice p n cap) (l.map encStr)) : n = l.length ∧ CellsOf w p l := by
  obtain ⟨q, c, e, _, h2⟩ := h
  injection e with e1 e2 e3
  subst e1 e2 e3
  refine ⟨by rw [List.length_map], fun i x hx => ?_⟩
  rcases h2 with h0 | ⟨blk, off, hp, hb, _, hc⟩
  · rw [List.length_map] at h0
    rw [List.eq_nil_of_length_eq_zero h0] at hx
    cases hx
  · exact ⟨blk, off, hp, hb, hc i _ (encStr_getElem l i x hx)⟩

set_option maxHeartbeats 4000000 in
set_option maxRecDepth 100000 in
theorem refCost_any (k : ByteArray) (vl vc : Nat) (vp : Option Addr) (v : Value) (l : List Bt) (hk : k.size ≤ 1000) (hv : vl ≤ 1000000) (hl : l.length ≤ 100) (hx : ∀ x ∈ l, x.length ≤ 1000) (w : World) (hr : Reads w v (l.map encStr)) :
    Calls Try.prog 9 #[.string k, .slice vp vl vc, v] w fun e w' => e = .returned (.tuple #[.int .i64 (acCost k.size vl l).1, .int .i64 (acCost k.size vl l).2]) ∧ Below w.heap.size w w' := by
  have hR := hr
  obtain ⟨p, cap, rfl, hl2, _⟩ := hr
  obtain ⟨_, hC⟩ := cellsOf_reads hR
  rw [List.length_map] at hl2 hR ⊢
  have HC := Lib.hid hC
  have HX := Lib.hid hx
  clear hC hx hR
  rcases Bool.eq_false_or_eq_true (kValid k.size) with hkv | hkv
  · by_cases h16 : l.length ≤ 16
    · go_enter Try.func9, Try.ntmps9
      go_wp2_with (go_at_call 28; refine (refValid_any _ _).mono ?_; rintro e w' ⟨rfl, rfl⟩)
      go_loopw [8, 9] (fun n i wr => ∃ j : Nat, j ≤ l.length ∧ i = .int .i64 j ∧ n = .int .i64 ((64 + k.size + vl + lenSum (l.take j) : Nat) : Int) ∧ Hid (Good l j) ∧ Below w.heap.size w wr) (fun _ i _ => l.length - (intOf i).toNat)
      case atStart => exact ⟨0, by omega, rfl, by simp [lenSum], Good.zero l, Below.refl _ _⟩
      case round =>
        obtain ⟨j, hj, rfl, rfl, HG, hbl⟩ := hrel
        have hsum : lenSum (l.take j) ≤ 100000 := by
          refine Nat.le_trans (lenSum_bound _ 1000 fun x hx => HX.out x (List.mem_of_mem_take hx)) ?_
          rw [List.length_take]
          omega
        by_cases hlt : j < l.length
        · obtain ⟨x, hx⟩ : ∃ x, l[j]? = some x := ⟨l[j], List.getElem?_eq_getElem hlt⟩
          obtain ⟨blk, off, rfl, HBLK, hcell0⟩ := HC.out j x hx
          have hcell : wr.cell? ⟨blk, off + j, none⟩ = some (.string ⟨x.toArray⟩) := by
            rw [hbl.cell (p := ⟨blk, off + j, none⟩) HBLK]; exact hcell0
          have hxl := HX.out x (List.mem_of_getElem? hx)
          rcases Bool.eq_false_or_eq_true (tagOk x) with ht | ht
          · rcases Nat.eq_zero_or_pos j with h0 | h0
            · subst h0
              have HG2 := Lib.hid (HG.out.step hx ht (fun y h => by omega))
              have HS := Lib.hid (lenSum_snoc l 0 x hx)
              have HT : Hid (∀ w, Calls Try.prog 29 #[.string ⟨x.toArray⟩] w fun e w' => e = .returned (.bool true) ∧ w' = w) := fun w => by
                have := refTagOk_any x w; rwa [ht] at this
              have hcell' : wr.cell? ⟨blk, off, none⟩ = some (.string ⟨x.toArray⟩) := by simpa using hcell
              have hl0 : lenSum (l.take 0) = 0 := rfl
              have hcost : (64 + (k.size : Int) + (vl : Int) + ((lenSum (l.take 0) : Nat) : Int) + (x.length : Int)) ≤ 2000000 := by omega
              clear hx ht hcell hcell0 HG hl0
              simp only [List.take_zero] at hcost
              go_wp2_with fail
              go_quiet ((go_at_call 29; refine Calls.quiet_of_same (HT.out _)))
              go_wp2_with fail
              go_roundw
              case rel => exact ⟨1, by omega, rfl, by rw [HS.out]; simp only [List.take_zero]; first | go_num | (congr 1; omega), HG2, below_drewN hbl _⟩
              case measure => simp [intOf]; omega
            · obtain ⟨y, hy⟩ : ∃ y, l[j - 1]? = some y := ⟨_, List.getElem?_eq_getElem (by omega)⟩
              obtain ⟨blk2, off2, e2, _, hcell1⟩ := HC.out (j - 1) y hy
              injection e2 with e2
              injection e2 with e2 e3
              subst e2 e3
              have hcell2 : wr.cell? ⟨blk, off + (j - 1), none⟩ = some (.string ⟨y.toArray⟩) := by
                rw [hbl.cell (p := ⟨blk, off + (j - 1), none⟩) HBLK]; exact hcell1
              have HT : Hid (∀ w, Calls Try.prog 29 #[.string ⟨x.toArray⟩] w fun e w' => e = .returned (.bool true) ∧ w' = w) := fun w => by
                have := refTagOk_any x w; rwa [ht] at this
              have q1 : IntKind.i64.wrap ((j : Int) - 1) = (j : Int) - 1 := IntWalk.i64_in _ (by omega)
              have q2 : (0 : Int) ≤ (j : Int) - 1 := by omega
              have q3 : (j : Int) - 1 < (l.length : Int) := by omega
              have q4 : ((j : Int) - 1).toNat = j - 1 := by omega
              by_cases hyx : y < x
              · have HG2 := Lib.hid (HG.out.step hx ht (fun z _ hz => by rw [hy] at hz; cases hz; exact hyx))
                have HS := Lib.hid (lenSum_snoc l j x hx)
                have hbl2 : Op.bytesLess y x = true := by rw [bytesLess_eq]; exact decide_eq_true hyx
                clear hx hy ht hcell0 hcell1 HG hyx
                go_wp2_with fail
                go_quiet ((go_at_call 29; refine Calls.quiet_of_same (HT.out _)))
                clear q1 q2 q3 q4
                go_wp2_with fail
                go_roundw
                case rel => exact ⟨j + 1, by omega, by go_num, by rw [HS.out]; go_num, HG2, below_drewN hbl _⟩
                case measure => simp [intOf]; omega
              · have HE := Lib.hid (acCost_bad (kl := k.size) (vl := vl) (l := l) (by simp [okTags_order h0 hx hy hyx]))
                have hbl2 : Op.bytesLess y x = false := by rw [bytesLess_eq]; exact decide_eq_false hyx
                clear hx hy ht hcell0 hcell1 HG hyx
                go_wp2_with fail
                go_quiet ((go_at_call 29; refine Calls.quiet_of_same (HT.out _)))
                clear q1 q2 q3 q4
                go_wp2_with fail
                go_ret2
                rw [HE.out]
                exact ⟨rfl, below_drewN hbl _⟩
          · have HE := Lib.hid (acCost_bad (kl := k.size) (vl := vl) (l := l) (by simp [okTags_bad hx ht]))
            have HT : Hid (∀ w, Calls Try.prog 29 #[.string ⟨x.toArray⟩] w fun e w' => e = .returned (.bool false) ∧ w' = w) := fun w => by
              have := refTagOk_any x w; rwa [ht] at this
            clear hx ht hcell0 HG
            go_wp2_with fail
            go_quiet ((go_at_call 29; refine Calls.quiet_of_same (HT.out _)))
            go_wp2_with fail
            go_ret2
            rw [HE.out]
            exact ⟨rfl, below_drewN hbl _⟩
        · obtain rfl : j = l.length := by omega
          have hok := HG.out.ok h16
          rw [List.take_length] at hsum
          rcases Nat.lt_or_ge 65536 vl with hvl | hvl
          · have HE := Lib.hid (acCost_long (kl := k.size) (vl := vl) (l := l) (by simp [hkv, hok]) hvl)
            clear hok HG hlt
            go_wp2_with fail
            go_ret2
            rw [HE.out]
            exact ⟨rfl, hbl⟩
          · have HE := Lib.hid (acCost_ok (kl := k.size) (vl := vl) (l := l) (by simp [hkv, hok]) hvl)
            clear hok HG hlt
            rw [List.take_length]
            go_wp2_with fail
            go_ret2
            rw [HE.out]
            exact ⟨by simp; omega, hbl⟩
    · have h17 : 16 < l.length := by omega
      have HE := Lib.hid (acCost_bad (kl := k.size) (vl := vl) (l := l) (by simp [okTags_long h17]))
      clear h16
      go_enter Try.func9, Try.ntmps9
      go_wp2_with (go_at_call 28; refine (refValid_any _ _).mono ?_; rintro e w' ⟨rfl, rfl⟩)
      go_ret2
      rw [HE.out]
      exact ⟨rfl, Below.refl _ _⟩
  · have HE := Lib.hid (acCost_bad (kl := k.size) (vl := vl) (l := l) (by simp [hkv]))
    go_enter Try.func9, Try.ntmps9
    go_wp2_with (go_at_call 28; refine (refValid_any _ _).mono ?_; rintro e w' ⟨rfl, rfl⟩)
    go_ret2
    rw [HE.out]
    exact ⟨rfl, Below.refl _ _⟩

set_option maxHeartbeats 4000000 in
set_option maxRecDepth 100000 in
theorem accCost_any (k : ByteArray) (vl vc : Nat) (vp : Option Addr) (v : Value) (l : List Bt) (hk : k.size ≤ 1000) (hv : vl ≤ 1000000) (hl : l.length ≤ 100) (hx : ∀ x ∈ l, x.length ≤ 1000) (w : World) (hr : Reads w v (l.map encStr)) :
    Calls Try.prog 19 #[.string k, .slice vp vl vc, v] w fun e w' => e = .returned (.tuple #[.int .i64 (acCost k.size vl l).1, .int .i64 (acCost k.size vl l).2]) ∧ Below w.heap.size w w' := by
  have hR := Lib.hid hr
  obtain ⟨p, cap, rfl, hl2, _⟩ := hr
  rw [List.length_map] at hl2 ⊢
  have HX := Lib.hid hx
  clear hx
  have HR : Hid (∀ w', Below w.heap.size w w' → Reads w' (.slice p l.length cap) (l.map encStr)) := fun w' hb => by
    have := hR.out.below hb
    rwa [List.length_map] at this
  have HT : Hid (Calls Try.prog 35 #[.slice p l.length cap] w fun e w' => ∃ u, e = .returned (.tuple #[u, .int .i64 (kTags l).2]) ∧ Reads w' u ((kTags l).1.map encStr) ∧ Below w.heap.size w w') := by
    have h0 := HR.out w (Below.refl _ _)
    refine (keyTags_any _ l w h0 (by omega)).mono ?_
    rintro e w' ⟨u, rfl, ho, hb⟩
    refine ⟨u, rfl, Reads.of_own (base := w.heap.size) (e := 9) ?_ ?_, hb⟩
    · rw [List.length_map]; exact ho
    · rw [List.length_map]
      have : (kTags l).1.length ≤ l.length := by
        unfold kTags
        split
        · split
          · exact kUniq_length l
          · simp
        · simp
      omega
  rcases Bool.eq_false_or_eq_true (kValid k.size) with hkv | hkv
  · cases hte : (kTags l).2 == 0 with
    | true =>
      have hte2 : (kTags l).2 = 0 := by simpa using hte
      rw [hte2] at HT
      cases heq : decide ((kTags l).1 = l) with
      | true =>
        have heq2 : (kTags l).1 = l := by simpa using heq
        have hok : okTags l = true := okTags_of (by rw [← heq2] ; rw [heq2]; exact Prod.ext heq2 hte2)
        have HEQ : Hid (∀ (u : Value) (W : World), Reads W u ((kTags l).1.map encStr) → Below w.heap.size w W → Calls Try.prog 37 #[u, .slice p l.length cap] W fun e w' => e = .returned (.bool true) ∧ Below W.heap.size W w') := fun u W h1 h2 => by
          have := equal_any u _ _ l W h1 (HR.out W h2)
          rwa [heq] at this
        have hb := okTags_bounds hok
        rcases Nat.lt_or_ge 65536 vl with hvl | hvl
        · have HE := Lib.hid (acCost_long (kl := k.size) (vl := vl) (l := l) (by simp [hkv, hok]) hvl)
          clear hte hte2 heq heq2 hok hb
          go_enter Try.func19, Try.ntmps19
          go_wp2_with fail
          refine HT.out.mono ?_
          rintro e w1 ⟨u, rfl, hu, b1⟩
          have HU := Lib.hid hu
          clear hu
          go_wp2_with fail
          refine (keyValid_any _ _).mono ?_
          rintro e w' ⟨rfl, rfl⟩
          go_wp2_with fail
          refine (HEQ.out u _ HU.out b1).mono ?_
          rintro e w2 ⟨rfl, b2⟩
          go_wp2_with fail
          go_ret2
          rw [HE.out]
          exact ⟨rfl, b1.trans (b2.mono b1.size)⟩
        · have HE := Lib.hid (acCost_ok (kl := k.size) (vl := vl) (l := l) (by simp [hkv, hok]) hvl)
          obtain ⟨hb1, hb2⟩ := hb
          clear hte hte2 heq heq2 hok hb2
          go_enter Try.func19, Try.ntmps19
          go_wp2_with fail
          refine HT.out.mono ?_
          rintro e w1 ⟨u, rfl, hu, b1⟩
          have HU := Lib.hid hu
          clear hu
          go_wp2_with fail
          refine (keyValid_any _ _).mono ?_
          rintro e w' ⟨rfl, rfl⟩
          go_wp2_with fail
          refine (HEQ.out u _ HU.out b1).mono ?_
          rintro e w2 ⟨rfl, b2⟩
          have b3 := b1.trans (b2.mono b1.size)
          clear b1 b2
          have HC := Lib.hid (cellsOf_reads (HR.out _ b3)).2
          go_wp2_with fail
          go_loop [10, 44] (fun n i => ∃ j : Nat, j ≤ l.length ∧ i = .int .i64 j ∧ n = .int .i64 ((k.size + vl + 64 + lenSum (l.take j) : Nat) : Int)) (fun _ i => l.length - (intOf i).toNat)
          case atStart => exact ⟨0, by omega, rfl, by simp [lenSum]⟩
          case round =>
            obtain ⟨j, hj, rfl, rfl⟩ := hrel
            have hsum : lenSum (l.take j) ≤ 100000 := by
              refine Nat.le_trans (lenSum_bound _ 1000 fun x hx => HX.out x (List.mem_of_mem_take hx)) ?_
              rw [List.length_take]
              omega
            by_cases hlt : j < l.length
            · obtain ⟨x, hx⟩ : ∃ x, l[j]? = some x := ⟨l[j], List.getElem?_eq_getElem hlt⟩
              obtain ⟨blk, off, rfl, HBLK, hcell⟩ := HC.out j x hx
              have hxl := HX.out x (List.mem_of_getElem? hx)
              have HS := Lib.hid (lenSum_snoc l j x hx)
              clear hx
              go_wp2
              go_round
              case rel => exact ⟨j + 1, by omega, by go_num, by rw [HS.out]; go_num⟩
              case measure => simp [intOf]; omega
            · obtain rfl : j = l.length := by omega
              rw [List.take_length] at hsum
              clear hlt hj
              rw [List.take_length]
              go_wp2
              go_ret2
              rw [HE.out]
              exact ⟨rfl, b3⟩
      | false =>
        have hok : okTags l = false := by
          cases h : okTags l with
          | false => rfl
          | true =>
            have := kTags_of h
            rw [this] at heq
            simp at heq
        have HE := Lib.hid (acCost_bad (kl := k.size) (vl := vl) (l := l) (by simp [hok]))
        have HEQ : Hid (∀ (u : Value) (W : World), Reads W u ((kTags l).1.map encStr) → Below w.heap.size w W → Calls Try.prog 37 #[u, .slice p l.length cap] W fun e w' => e = .returned (.bool false) ∧ Below W.heap.size W w') := fun u W h1 h2 => by
          have := equal_any u _ _ l W h1 (HR.out W h2)
          rwa [heq] at this
        clear hte hte2 heq hok
        go_enter Try.func19, Try.ntmps19
        go_wp2_with fail
        refine HT.out.mono ?_
        rintro e w1 ⟨u, rfl, hu, b1⟩
        have HU := Lib.hid hu
        clear hu
        go_wp2_with fail
        refine (keyValid_any _ _).mono ?_
        rintro e w' ⟨rfl, rfl⟩
        go_wp2_with fail
        refine (HEQ.out u _ HU.out b1).mono ?_
        rintro e w2 ⟨rfl, b2⟩
        go_wp2_with fail
        go_ret2
        rw [HE.out]
        exact ⟨rfl, b1.trans (b2.mono b1.size)⟩
    | false =>
      have hok : okTags l = false := by
        cases h : okTags l with
        | false => rfl
        | true =>
          have := kTags_of h
          rw [this] at hte
          simp at hte
      have HE := Lib.hid (acCost_bad (kl := k.size) (vl := vl) (l := l) (by simp [hok]))
      obtain ⟨ez, hez⟩ : ∃ ez, (kTags l).2 = ez := ⟨_, rfl⟩
      rw [hez] at HT hte
      have hte3 : (ez != 0) = true := by simpa using hte
      clear hok hez
      go_enter Try.func19, Try.ntmps19
      go_wp2_with fail
      refine HT.out.mono ?_
      rintro e w1 ⟨u, rfl, hu, b1⟩
      clear hu
      go_wp2_with fail
      refine (keyValid_any _ _).mono ?_
      rintro e w' ⟨rfl, rfl⟩
      go_wp2_with fail
      go_ret2
      rw [HE.out]
      exact ⟨rfl, b1⟩
  · have HE := Lib.hid (acCost_bad (kl := k.size) (vl := vl) (l := l) (by simp [hkv]))
    go_enter Try.func19, Try.ntmps19
    go_wp2_with fail
    refine HT.out.mono ?_
    rintro e w1 ⟨u, rfl, hu, b1⟩
    clear hu
    go_wp2_with fail
    refine (keyValid_any _ _).mono ?_
    rintro e w' ⟨rfl, rfl⟩
    go_wp2_with fail
    go_ret2
    rw [HE.out]
    exact ⟨rfl, b1⟩

theorem infoByte : (Try.prog.info? 5).map (fun i => (i.zero, i.size, i.bytes)) = some (some (.int .u8 0), 1, 1) := by kernel_rfl
set_option maxHeartbeats 1000000 in
theorem costs_any (k : ByteArray) (n : Nat) (v : Value) (l : List Bt) (want no : Int) (hk : k.size ≤ 1000) (hv : n ≤ 1000000) (hl : l.length ≤ 100) (hx : ∀ x ∈ l, x.length ≤ 1000) (w : World) (hr : Reads w v (l.map encStr)) :
    Calls Try.prog 10 #[.string k, .int .i64 n, v, .int .i64 want, .int .i64 no] w fun e w' => e = .returned (.bool ((acCost k.size n l).1 == want && (acCost k.size n l).2 == no)) ∧ Below w.heap.size w w' := by
  have hmk := run_make_row' (P := Try.prog) 26 5 (.int .u8 0) 1 Try.underlying26 infoByte rfl .i64 .i64 n (by omega) (by omega)
  have HX := Lib.hid hx
  have HR := Lib.hid hr
  clear hx hr
  go_enter Try.func10, Try.ntmps10
  go_wp2_with fail
  have hr2 := HR.out.below ((Below.refl w.heap.size w).alloc (Nat.le_refl _) (.cells (Go.madeCells #[.int .u8 0] n) 5))
  have HR2 := Lib.hid hr2
  clear hr2 hmk
  refine (accCost_any k n n _ v l hk hv hl HX.out _ HR2.out).mono ?_
  rintro e w1 ⟨rfl, b1⟩
  have b2 := ((Below.refl w.heap.size w).alloc (Nat.le_refl _) (.cells (Go.madeCells #[.int .u8 0] n) 5)).trans (b1.mono (by simp))
  clear b1
  go_wp2_with fail
  all_goals
    go_ret
    exact ⟨by simp [*], b2⟩
end Go.Proofs.Ytnfehdcinmgnjaa
