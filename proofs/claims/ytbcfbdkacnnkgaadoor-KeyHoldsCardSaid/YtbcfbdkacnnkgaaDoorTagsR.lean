/- The contract of the reference's Tags. -/
import Derived.Test.YtbcfbdkacnnkgaaDoorTags
import Derived.Test.YtbcfbdkacnnkgaaDoorKeyD
import Derived.WalkLawsBesides
import Derived.Laws.AppendOwnNone
import Derived.Deep.QuietTactic
import Derived.BigQuiet
namespace Go.Proofs.YtbcfbdkacnnkgaaDoor
set_option linter.unusedVariables false
open Go.RowKit Go.Maps Go.Sort

set_option maxHeartbeats 400000 in
theorem refTagOk_any (x : Bt) (w : World) :
    Calls Tryd.prog 14 #[.string ⟨x.toArray⟩] w fun e w' => e = .returned (.bool (tagOk x)) ∧ w = w' := by
  have hsz : (⟨x.toArray⟩ : ByteArray).size = x.length := by show x.toArray.size = _; simp
  rcases tagOk_cases x with ⟨h, hv⟩ | ⟨h, h2, hv⟩ | ⟨h, hv⟩
  all_goals
    have HV := Lib.hid hv
    have h' : 0 < x.length ∨ x.length = 0 := by omega
    have h3 : x.length < 1 ∨ 1 ≤ x.length := by omega
    clear hv
    go_enter Tryd.func14, Tryd.ntmps14
    go_wp2
    go_ret
    rw [HV.out]
    refine ⟨?_, rfl⟩
    first | rfl | (simp; omega)

theorem kIns_skip (x : Bt) : ∀ (m : Nat) (U : List Bt), (∀ y ∈ U.take m, y < x) → kIns x U = U.take m ++ kIns x (U.drop m)
  | 0, U, _ => by simp
  | m + 1, [], _ => by simp
  | m + 1, y :: r, h => by
    have h1 : y < x := h y (by simp)
    rw [kIns, if_pos h1, kIns_skip x m r (fun z hz => h z (by simp [hz]))]
    simp
theorem kIns_end (x : Bt) (U : List Bt) (h : ∀ y ∈ U.take U.length, y < x) : kIns x U = U.take U.length ++ [x] ++ U.drop U.length := by
  rw [kIns_skip x U.length U h]
  simp [kIns]
theorem kIns_mid (x y : Bt) (m : Nat) (U : List Bt) (h : ∀ y ∈ U.take m, y < x) (hy : U[m]? = some y) (h1 : ¬ y < x) (h2 : y ≠ x) : kIns x U = U.take m ++ [x] ++ U.drop m := by
  rw [kIns_skip x m U h]
  obtain ⟨hm, rfl⟩ := List.getElem?_eq_some_iff.1 hy
  rw [List.drop_eq_getElem_cons hm, kIns, if_neg h1, if_neg h2]
  simp
theorem kIns_same (x : Bt) (m : Nat) (U : List Bt) (h : ∀ y ∈ U.take m, y < x) (hy : U[m]? = some x) : kIns x U = U := by
  rw [kIns_skip x m U h]
  obtain ⟨hm, e⟩ := List.getElem?_eq_some_iff.1 hy
  rw [List.drop_eq_getElem_cons hm, e, kIns, if_neg (List.lt_irrefl x), if_pos rfl]
  rw [← e, ← List.drop_eq_getElem_cons hm, List.take_append_drop]

theorem all_strings (l : List Bt) : ∀ u ∈ l.map encStr, u.oneCell' = true := by
  intro u hu
  obtain ⟨x, _, rfl⟩ := List.mem_map.1 hu
  rfl
theorem row_lt {w : World} {base g n cap : Nat} {e : TypeId} {xs : List Value} (h : w.ownsRow base e 1 (.slice (some ⟨g, 0, none⟩) n cap) n xs) : g < w.heap.size := (h.lt g rfl).2
theorem row_cap {w : World} {base g n cap : Nat} {e : TypeId} {xs : List Value} (h : w.ownsRow base e 1 (.slice (some ⟨g, 0, none⟩) n cap) n xs) : n ≤ cap := by
  rcases h.2 with ⟨h0, _⟩ | ⟨g', cap', row, hv, _, _, h1, _⟩
  · cases h0
  · cases hv; exact h1
theorem own_cases {w : World} {base n : Nat} {v : Value} {e : TypeId} {xs : List Value} (h : w.ownsRow base e 1 v n xs) : (v = .slice none 0 0 ∧ n = 0) ∨ ∃ g cap, v = .slice (some ⟨g, 0, none⟩) n cap := by
  rcases h.2 with h0 | ⟨g, cap, row, hv, _⟩
  · exact .inl h0
  · exact .inr ⟨g, cap, hv⟩
theorem take_strings (l : List Bt) (m : Nat) : ∀ u ∈ (l.map encStr).take m, u.oneCell' = true := fun u hu => all_strings l u (List.mem_of_mem_take hu)
theorem drop_strings (l : List Bt) (m : Nat) : ∀ u ∈ (l.map encStr).drop m, u.oneCell' = true := fun u hu => all_strings l u (List.mem_of_mem_drop hu)
theorem take_cells {w : World} {base g cap : Nat} {e : TypeId} {U : List Bt} (h : w.ownsRow base e 1 (.slice (some ⟨g, 0, none⟩) U.length cap) U.length (U.map encStr)) (m : Nat) : ∀ j u, ((U.map encStr).take m)[j]? = some u → w.cell? ((⟨g, 0, none⟩ : Addr).add j) = some u := by
  intro j u hj
  rw [List.getElem?_take] at hj
  split at hj
  · exact h.cells (g := g) rfl j u hj
  · cases hj
theorem drop_cells {w : World} {base g cap : Nat} {e : TypeId} {U : List Bt} (h : w.ownsRow base e 1 (.slice (some ⟨g, 0, none⟩) U.length cap) U.length (U.map encStr)) (m : Nat) : ∀ j u, ((U.map encStr).drop m)[j]? = some u → w.cell? ((⟨g, m, none⟩ : Addr).add j) = some u := by
  intro j u hj
  rw [List.getElem?_drop] at hj
  have := h.cells (g := g) rfl (m + j) u hj
  rw [Lib.add_plain, Nat.zero_add] at this
  rw [Lib.add_plain]
  exact this

set_option maxHeartbeats 4000000 in
set_option maxRecDepth 100000 in
theorem refTags_any (v : Value) (l : List Bt) (w : World) (h : Reads w v (l.map encStr)) (hl : l.length ≤ 1000000) :
    Calls Tryd.prog 30 #[v] w fun e w' => ∃ u, e = .returned (.tuple #[u, .int .i64 (kTags l).2]) ∧ w'.ownsRow w.heap.size 9 1 u (kTags l).1.length ((kTags l).1.map encStr) ∧ Below w.heap.size w w' := by
  obtain ⟨p, cap, rfl, hl2, h2⟩ := h
  rw [List.length_map] at h2 ⊢
  clear hl2
  obtain ⟨i0, hi, hz0, hz1, hz2⟩ := info_parts tags_info
  have hcells : ∀ i x, l[i]? = some x → ∃ blk off, p = some ⟨blk, off, none⟩ ∧ blk < w.heap.size ∧ w.cell? ⟨blk, off + i, none⟩ = some (.string ⟨x.toArray⟩) := by
    intro i x hx
    rcases h2 with h0 | ⟨blk, off, hp, hb, _, hc⟩
    · rw [List.eq_nil_of_length_eq_zero h0] at hx; cases hx
    · exact ⟨blk, off, hp, hb, hc i _ (encStr_getElem l i x hx)⟩
  have HC := Lib.hid hcells
  clear h2 hcells
  go_enter Tryd.func30, Tryd.ntmps30
  go_wp2
  go_loopw [4, 5] (fun v i wr => ∃ k : Nat, k ≤ l.length ∧ i = .int .i64 k ∧ Hid ((l.take k).all tagOk = true) ∧ wr.ownsRow w.heap.size 9 1 v (kUniq (l.take k)).length ((kUniq (l.take k)).map encStr) ∧ Below w.heap.size w wr) (fun _ i _ => l.length - (intOf i).toNat)
  case atStart => exact ⟨0, Nat.zero_le _, rfl, rfl, World.ownsRow_nil _ _ _ _, Below.refl _ _⟩
  case round =>
    obtain ⟨k, hk, rfl, HA, hown, hbl⟩ := hrel
    by_cases hlt : k < l.length
    · obtain ⟨x, hx⟩ : ∃ x, l[k]? = some x := ⟨l[k], List.getElem?_eq_getElem hlt⟩
      obtain ⟨blk, off, rfl, HBLK, hcell0⟩ := HC.out k x hx
      have hcell : wr.cell? ⟨blk, off + k, none⟩ = some (.string ⟨x.toArray⟩) := by
        rw [hbl.cell (p := ⟨blk, off + k, none⟩) HBLK]; exact hcell0
      have htk := take_snoc l k x hx
      have HC0 := Lib.hid hcell0
      clear hcell0
      rcases Bool.eq_false_or_eq_true (tagOk x) with hv | hv
      · have hxl : x.length ≤ 64 := by rcases tagOk_cases x with ⟨_, h⟩ | ⟨_, h, _⟩ | ⟨_, h⟩ <;> simp_all
        have HA2 := Lib.hid (all_snoc l k x hx HA.out hv)
        have hun : kUniq (l.take (k + 1)) = kIns x (kUniq (l.take k)) := by rw [htk, kUniq_snoc]
        have HUN := Lib.hid hun
        have hul : (kUniq (l.take k)).length ≤ 1000000 := by have := kUniq_length (l.take k); rw [List.length_take] at this; omega
        generalize kUniq (l.take k) = U at hown HUN hul
        clear hx htk HA hun
        go_wp2_with (first | (go_at_call 14; refine (refTagOk_any _ _).mono ?_; rintro e w' ⟨rfl, rfl⟩))
        go_loopw [6] (fun j wi => ∃ m : Nat, m ≤ U.length ∧ j = .int .i64 m ∧ Hid (∀ y ∈ U.take m, y < x) ∧ wi.ownsRow w.heap.size 9 1 u4 U.length (U.map encStr) ∧ Below w.heap.size w wi) (fun j _ => U.length - (intOf j).toNat)
        case atStart => exact ⟨0, Nat.zero_le _, rfl, fun y hy => by simp at hy, hown, hbl⟩
        case round =>
          clear hown hbl hcell
          obtain ⟨m, hm, rfl, HLT, hown, hbl⟩ := hrel
          have hcell : wr.cell? ⟨blk, off + k, none⟩ = some (.string ⟨x.toArray⟩) := by
            rw [hbl.cell (p := ⟨blk, off + k, none⟩) HBLK]; exact HC0.out
          by_cases hmu : m < U.length
          · obtain ⟨y, hy⟩ : ∃ y, U[m]? = some y := ⟨U[m], List.getElem?_eq_getElem hmu⟩
            obtain ⟨g, cg, rfl, hg⟩ : ∃ g cap, u4 = .slice (some ⟨g, 0, none⟩) U.length cap ∧ w.heap.size ≤ g := by
              rcases hown.2 with ⟨_, h0⟩ | ⟨g, cap, row, hv, hg, _⟩
              · omega
              · exact ⟨g, cap, hv, hg⟩
            have hcu : wr.cell? ⟨g, m, none⟩ = some (.string ⟨y.toArray⟩) := by
              have := hown.cells (g := g) rfl m (encStr y) (encStr_getElem U m y hy)
              rw [Lib.add_plain, Nat.zero_add] at this
              exact this
            rcases Classical.em (y < x) with hyx | hyx
            · have c1 : Op.bytesLess y x = true := by rw [bytesLess_eq]; exact decide_eq_true hyx
              have HLT2 : Hid (∀ z ∈ U.take (m + 1), z < x) := by
                rw [take_snoc U m y hy]
                intro z hz
                rcases List.mem_append.1 hz with h | h
                · exact HLT.out z h
                · rw [List.mem_singleton.1 h]; exact hyx
              clear hy hyx HLT
              go_wp2
              go_quiet (fail)
              obtain ⟨W1, hW1⟩ : ∃ W1, wr.drewN nq = W1 := ⟨_, rfl⟩
              have hown1 : W1.ownsRow w.heap.size 9 1 (.slice (some ⟨g, 0, none⟩) U.length cg) U.length (U.map encStr) := by rw [← hW1]; exact hown
              have hbl1 : Below w.heap.size w W1 := by rw [← hW1]; exact below_drewN hbl _
              rw [hW1]
              clear hW1 hown hbl
              go_wp2
              go_roundw
              case rel => exact ⟨m + 1, by omega, by go_num, HLT2, hown1, hbl1⟩
              case measure => simp [intOf]; omega
            · have c1 : Op.bytesLess y x = false := by rw [bytesLess_eq]; exact decide_eq_false hyx
              by_cases hxy : y = x
              · subst hxy
                have c3 : ((m : Int) == (U.length : Int)) = false := beq_eq_false_iff_ne.2 (by omega)
                have hsm := kIns_same y m U HLT.out hy
                have HSM := Lib.hid hsm
                clear hsm hy hyx HLT
                go_wp2
                go_quiet (fail)
                obtain ⟨W1, hW1⟩ : ∃ W1, wr.drewN nq = W1 := ⟨_, rfl⟩
                have hown1 : W1.ownsRow w.heap.size 9 1 (.slice (some ⟨g, 0, none⟩) U.length cg) U.length (U.map encStr) := by rw [← hW1]; exact hown
                have hbl1 : Below w.heap.size w W1 := by rw [← hW1]; exact below_drewN hbl _
                rw [hW1]
                have hcu2 : W1.cell? ⟨g, m, none⟩ = some (.string ⟨y.toArray⟩) := by rw [← hW1]; exact hcu
                clear hcell hcu
                have hcell : W1.cell? ⟨blk, off + k, none⟩ = some (.string ⟨y.toArray⟩) := by
                  rw [hbl1.cell (p := ⟨blk, off + k, none⟩) HBLK]; exact HC0.out
                clear hW1 hown hbl
                go_wp2
                go_quiet (fail)
                go_wp2
                go_roundw
                case rel => exact ⟨k + 1, by omega, by go_num, HA2, by rw [HUN.out, HSM.out]; exact hown1, below_drewN hbl1 _⟩
                case measure => simp [intOf]; omega
              · have c3 : ((m : Int) == (U.length : Int)) = false := beq_eq_false_iff_ne.2 (by omega)
                have hmid := kIns_mid x y m U HLT.out hy hyx hxy
                have c4 : (y == x) = false := beq_eq_false_iff_ne.2 hxy
                have HM := Lib.hid hmid
                clear hmid hy hyx HLT hxy
                go_wp2
                go_quiet (fail)
                obtain ⟨W1, hW1⟩ : ∃ W1, wr.drewN nq = W1 := ⟨_, rfl⟩
                have hown1 : W1.ownsRow w.heap.size 9 1 (.slice (some ⟨g, 0, none⟩) U.length cg) U.length (U.map encStr) := by rw [← hW1]; exact hown
                have hbl1 : Below w.heap.size w W1 := by rw [← hW1]; exact below_drewN hbl _
                rw [hW1]
                have hcu2 : W1.cell? ⟨g, m, none⟩ = some (.string ⟨y.toArray⟩) := by rw [← hW1]; exact hcu
                clear hcell hcu
                have hcell : W1.cell? ⟨blk, off + k, none⟩ = some (.string ⟨x.toArray⟩) := by
                  rw [hbl1.cell (p := ⟨blk, off + k, none⟩) HBLK]; exact HC0.out
                clear hW1 hown hbl
                go_wp2
                go_quiet (fail)
                obtain ⟨W2, hW2⟩ : ∃ W2, W1.drewN nq = W2 := ⟨_, rfl⟩
                have hown2 : W2.ownsRow w.heap.size 9 1 (.slice (some ⟨g, 0, none⟩) U.length cg) U.length (U.map encStr) := by rw [← hW2]; exact hown1
                have hbl2 : Below w.heap.size w W2 := by rw [← hW2]; exact below_drewN hbl1 _
                rw [hW2]
                clear hW2 hown1 hbl1 hcell
                have hsz2 := hbl2.size
                have hgl : g < W2.heap.size := row_lt hown2
                have hcap := row_cap hown2
                have b1 : (m : Int) ≤ (cg : Int) := by omega
                have b2 : (U.length : Int) ≤ (cg : Int) := by omega
                have b3 : (m : Int) ≤ (U.length : Int) := by omega
                have HO2 := Lib.hid hown2
                clear hown2
                go_wp2_with (at_builtin; refine wpList_append_own _ rfl _ _ 26 rfl W2.heap.size 9 i0 (.string ⟨#[]⟩) 1 16 Tryd.underlying26 hi hz0 hz1 hz2 rfl (by decide) _ _ _ rfl (World.ownsRow_nil _ _ _ _) ⟨g, 0, none⟩ m cg ((U.map encStr).take m) rfl (by first | (simp; done) | (simp; omega)) ?c1 ?c2 ?c3 ?c4 ?c5 ?_)
                case c1 => exact take_cells HO2.out m
                case c2 => exact take_strings _ _
                case c3 => unfold maxLen; omega
                case c4 => omega
                case c5 => first | (simp; done) | (simp; omega)
                intro v1 w1 hv1 hg1 _
                have hg1' : W2.grownBy w1 none := hg1
                have hOw1 := HO2.out.kept hg1' (Or.inr (by simp [Value.ownBlock]))
                have hv1' : w1.ownsRow W2.heap.size 9 1 v1 m ((U.map encStr).take m) := by
                  exact hv1
                have hbl3 := hbl2.grown hg1' hsz2 (fun j hj => by cases hj)
                have hsz3 := hg1'.size
                have hcell : w1.cell? ⟨blk, off + k, none⟩ = some (.string ⟨x.toArray⟩) := by
                  rw [hbl3.cell (p := ⟨blk, off + k, none⟩) HBLK]; exact HC0.out
                have HO3 := Lib.hid hOw1
                have HV1 := Lib.hid hv1'
                clear hv1 hv1' hOw1 hg1 hg1' HO2
                go_wp2_with (at_builtin; refine wpList_append_own _ rfl _ _ 26 rfl W2.heap.size 9 i0 (.string ⟨#[]⟩) 1 16 Tryd.underlying26 hi hz0 hz1 hz2 rfl (by decide) _ _ _ rfl (HV1.out.alloc _) ⟨w1.heap.size, 0, none⟩ 1 1 [encStr x] rfl rfl ?c1 ?c2 ?c3 ?c4 ?c5 ?_)
                case c1 => exact cell_one_new _ _ _
                case c2 => exact one_string _
                case c3 => unfold maxLen; omega
                case c4 => omega
                case c5 => first | (simp; done) | (simp; omega)
                intro v2 w2 hv2 hg2 _
                have hOw2 := (HO3.out.alloc (.cells #[encStr x] 9)).kept hg2 (Or.inr (row_ne_low HV1.out hgl))
                have hbl4 := (hbl3.alloc (by omega) _).grown hg2 (by simp; omega) (fun j hj => by have := (HV1.out.lt j hj).1; omega)
                have hsz4 := hg2.size
                rw [World.size_alloc] at hsz4
                have HO4 := Lib.hid hOw2
                have HV2 := Lib.hid hv2
                clear hv2 hOw2 hg2 HO3 HV1 hcell
                go_wp2_with (at_builtin; refine wpList_append_own _ rfl _ _ 26 rfl W2.heap.size 9 i0 (.string ⟨#[]⟩) 1 16 Tryd.underlying26 hi hz0 hz1 hz2 rfl (by decide) _ _ _ rfl HV2.out ⟨g, m, none⟩ (U.length - m) (cg - m) ((U.map encStr).drop m) rfl (by simp) ?c1 ?c2 ?c3 ?c4 ?c5 ?_)
                case c1 => exact drop_cells HO4.out m
                case c2 => exact drop_strings _ _
                case c3 => unfold maxLen; omega
                case c4 => omega
                case c5 => omega
                intro v3 w3 hv3 hg3 _
                have hbl5 := hbl4.grown hg3 (by omega) (fun j hj => by have := (HV2.out.lt j hj).1; omega)
                have hnew : w3.ownsRow w.heap.size 9 1 v3 (kIns x U).length ((kIns x U).map encStr) := by
                  have hv3' := ownsRow_low hv3 hsz2
                  rw [HM.out]
                  have e1 : (U.take m ++ [x] ++ U.drop m).length = m + 1 + (U.length - m) := by simp; omega
                  rw [e1, List.map_append, List.map_append, List.map_take, List.map_drop, List.append_assoc]
                  exact hv3'
                clear hv3 hg3
                go_wp2
                go_roundw
                case rel => exact ⟨k + 1, by omega, by go_num, HA2, by rw [HUN.out]; exact hnew, hbl5⟩
                case measure => simp [intOf]; omega
          · obtain rfl : m = U.length := by omega
            have hend := kIns_end x U HLT.out
            have HM := Lib.hid hend
            clear hend HLT
            rcases own_cases hown with ⟨hu, h0⟩ | ⟨g, cg, hu⟩
            · subst hu
              have hU : U = [] := List.eq_nil_of_length_eq_zero h0
              subst hU
              go_wp2
              go_quiet (fail)
              obtain ⟨W1, hW1⟩ : ∃ W1, wr.drewN nq = W1 := ⟨_, rfl⟩
              have hbl1 : Below w.heap.size w W1 := by rw [← hW1]; exact below_drewN hbl _
              rw [hW1]
              clear hcell
              have hcell : W1.cell? ⟨blk, off + k, none⟩ = some (.string ⟨x.toArray⟩) := by
                rw [hbl1.cell (p := ⟨blk, off + k, none⟩) HBLK]; exact HC0.out
              clear hW1 hown hbl
              go_wp2
              go_quiet (fail)
              obtain ⟨W2, hW2⟩ : ∃ W2, W1.drewN nq = W2 := ⟨_, rfl⟩
              have hbl2 : Below w.heap.size w W2 := by rw [← hW2]; exact below_drewN hbl1 _
              rw [hW2]
              have hsz2 := hbl2.size
              clear hcell
              have hcell : W2.cell? ⟨blk, off + k, none⟩ = some (.string ⟨x.toArray⟩) := by
                rw [hbl2.cell (p := ⟨blk, off + k, none⟩) HBLK]; exact HC0.out
              clear hW2 hbl1
              go_wp2_with (at_builtin; refine wpList_append_own _ rfl _ _ 26 rfl W2.heap.size 9 i0 (.string ⟨#[]⟩) 1 16 Tryd.underlying26 hi hz0 hz1 hz2 rfl (by decide) _ _ _ rfl (World.ownsRow_nil _ _ _ _) ⟨W2.heap.size, 0, none⟩ 1 1 [encStr x] rfl rfl ?c1 ?c2 ?c3 ?c4 ?c5 ?_)
              case c1 => exact cell_one_new _ _ _
              case c2 => exact one_string _
              case c3 => unfold maxLen; omega
              case c4 => omega
              case c5 => simp
              intro v2 w2 hv2 hg2 _
              have hg2' : (W2.alloc (.cells #[encStr x] 9)).grownBy w2 none := hg2
              have hbl4 := (hbl2.alloc hsz2 _).grown hg2' (by simp; omega) (fun j hj => by cases hj)
              have HV2 := Lib.hid hv2
              clear hv2 hg2 hg2' hcell
              have hnw : w2.ownsRow w.heap.size 9 1 v2 (kIns x []).length ((kIns x []).map encStr) := ownsRow_low HV2.out hsz2
              have HN := Lib.hid hnw
              clear hnw
              go_wp2_with (at_builtin; refine wpList_append_own_none rfl _ _ 26 rfl W2.heap.size 9 i0 1 Tryd.underlying26 hi _ _ _ rfl HV2.out rfl ?_)
              go_wp2
              go_roundw
              case rel => exact ⟨k + 1, by omega, by go_num, HA2, by rw [HUN.out]; exact HN.out, hbl4⟩
              case measure => simp [intOf]; omega
            · subst hu
              rcases Nat.eq_or_lt_of_le (row_cap hown) with hcg | hcg
              · subst hcg
                go_wp2
                go_quiet (fail)
                obtain ⟨W1, hW1⟩ : ∃ W1, wr.drewN nq = W1 := ⟨_, rfl⟩
                have hown1 : W1.ownsRow w.heap.size 9 1 (.slice (some ⟨g, 0, none⟩) U.length U.length) U.length (U.map encStr) := by rw [← hW1]; exact hown
                have hbl1 : Below w.heap.size w W1 := by rw [← hW1]; exact below_drewN hbl _
                rw [hW1]
                clear hcell
                have hcell : W1.cell? ⟨blk, off + k, none⟩ = some (.string ⟨x.toArray⟩) := by
                  rw [hbl1.cell (p := ⟨blk, off + k, none⟩) HBLK]; exact HC0.out
                clear hW1 hown hbl
                go_wp2
                go_quiet (fail)
                obtain ⟨W2, hW2⟩ : ∃ W2, W1.drewN nq = W2 := ⟨_, rfl⟩
                have hown2 : W2.ownsRow w.heap.size 9 1 (.slice (some ⟨g, 0, none⟩) U.length U.length) U.length (U.map encStr) := by rw [← hW2]; exact hown1
                have hbl2 : Below w.heap.size w W2 := by rw [← hW2]; exact below_drewN hbl1 _
                rw [hW2]
                clear hW2 hown1 hbl1 hcell
                have hsz2 := hbl2.size
                have hgl : g < W2.heap.size := row_lt hown2
                have hcap := row_cap hown2
                have b1 : (U.length : Int) ≤ (U.length : Int) := by omega
                have b2 : (U.length : Int) ≤ (U.length : Int) := by omega
                have b3 : (U.length : Int) ≤ (U.length : Int) := by omega
                have HO2 := Lib.hid hown2
                clear hown2
                go_wp2_with (at_builtin; refine wpList_append_own _ rfl _ _ 26 rfl W2.heap.size 9 i0 (.string ⟨#[]⟩) 1 16 Tryd.underlying26 hi hz0 hz1 hz2 rfl (by decide) _ _ _ rfl (World.ownsRow_nil _ _ _ _) ⟨g, 0, none⟩ U.length U.length ((U.map encStr).take U.length) rfl (by first | (simp; done) | (simp; omega)) ?c1 ?c2 ?c3 ?c4 ?c5 ?_)
                case c1 => exact take_cells HO2.out U.length
                case c2 => exact take_strings _ _
                case c3 => unfold maxLen; omega
                case c4 => omega
                case c5 => first | (simp; done) | (simp; omega)
                intro v1 w1 hv1 hg1 _
                have hg1' : W2.grownBy w1 none := hg1
                have hOw1 := HO2.out.kept hg1' (Or.inr (by simp [Value.ownBlock]))
                have hv1' : w1.ownsRow W2.heap.size 9 1 v1 U.length ((U.map encStr).take U.length) := by
                  exact hv1
                have hbl3 := hbl2.grown hg1' hsz2 (fun j hj => by cases hj)
                have hsz3 := hg1'.size
                have hcell : w1.cell? ⟨blk, off + k, none⟩ = some (.string ⟨x.toArray⟩) := by
                  rw [hbl3.cell (p := ⟨blk, off + k, none⟩) HBLK]; exact HC0.out
                have HO3 := Lib.hid hOw1
                have HV1 := Lib.hid hv1'
                clear hv1 hv1' hOw1 hg1 hg1' HO2
                go_wp2_with (at_builtin; refine wpList_append_own _ rfl _ _ 26 rfl W2.heap.size 9 i0 (.string ⟨#[]⟩) 1 16 Tryd.underlying26 hi hz0 hz1 hz2 rfl (by decide) _ _ _ rfl (HV1.out.alloc _) ⟨w1.heap.size, 0, none⟩ 1 1 [encStr x] rfl rfl ?c1 ?c2 ?c3 ?c4 ?c5 ?_)
                case c1 => exact cell_one_new _ _ _
                case c2 => exact one_string _
                case c3 => unfold maxLen; omega
                case c4 => omega
                case c5 => first | (simp; done) | (simp; omega)
                intro v2 w2 hv2 hg2 _
                have hOw2 := (HO3.out.alloc (.cells #[encStr x] 9)).kept hg2 (Or.inr (row_ne_low HV1.out hgl))
                have hbl4 := (hbl3.alloc (by omega) _).grown hg2 (by simp; omega) (fun j hj => by have := (HV1.out.lt j hj).1; omega)
                have hsz4 := hg2.size
                rw [World.size_alloc] at hsz4
                have HO4 := Lib.hid hOw2
                have HV2 := Lib.hid hv2
                clear hv2 hOw2 hg2 HO3 HV1 hcell
                go_wp2_with (at_builtin; refine wpList_append_own _ rfl _ _ 26 rfl W2.heap.size 9 i0 (.string ⟨#[]⟩) 1 16 Tryd.underlying26 hi hz0 hz1 hz2 rfl (by decide) _ _ _ rfl HV2.out ⟨g, 0, none⟩ 0 0 [] rfl rfl ?c1 ?c2 ?c3 ?c4 ?c5 ?_)
                case c1 => intro j u hj; simp at hj
                case c2 => intro u hu; simp at hu
                case c3 => unfold maxLen; omega
                case c4 => omega
                case c5 => omega
                intro v3 w3 hv3 hg3 _
                have hbl5 := hbl4.grown hg3 (by omega) (fun j hj => by have := (HV2.out.lt j hj).1; omega)
                have hnew : w3.ownsRow w.heap.size 9 1 v3 (kIns x U).length ((kIns x U).map encStr) := by
                  have hv3' := ownsRow_low hv3 hsz2
                  rw [HM.out]
                  have e1 : U.take U.length ++ [x] ++ U.drop U.length = U ++ [x] := by simp
                  have e2 : (U.map encStr).take U.length = U.map encStr := by rw [← List.length_map (f := encStr), List.take_length]
                  rw [e1, List.length_append, List.map_append]
                  rw [e2] at hv3'
                  simpa using hv3'
                clear hv3 hg3
                go_wp2
                go_roundw
                case rel => exact ⟨k + 1, by omega, by go_num, HA2, by rw [HUN.out]; exact hnew, hbl5⟩
                case measure => simp [intOf]; omega
              · have hne : ¬ (cg = U.length) := by omega
                go_wp2
                go_quiet (fail)
                obtain ⟨W1, hW1⟩ : ∃ W1, wr.drewN nq = W1 := ⟨_, rfl⟩
                have hown1 : W1.ownsRow w.heap.size 9 1 (.slice (some ⟨g, 0, none⟩) U.length cg) U.length (U.map encStr) := by rw [← hW1]; exact hown
                have hbl1 : Below w.heap.size w W1 := by rw [← hW1]; exact below_drewN hbl _
                rw [hW1]
                clear hcell
                have hcell : W1.cell? ⟨blk, off + k, none⟩ = some (.string ⟨x.toArray⟩) := by
                  rw [hbl1.cell (p := ⟨blk, off + k, none⟩) HBLK]; exact HC0.out
                clear hW1 hown hbl
                go_wp2
                go_quiet (fail)
                obtain ⟨W2, hW2⟩ : ∃ W2, W1.drewN nq = W2 := ⟨_, rfl⟩
                have hown2 : W2.ownsRow w.heap.size 9 1 (.slice (some ⟨g, 0, none⟩) U.length cg) U.length (U.map encStr) := by rw [← hW2]; exact hown1
                have hbl2 : Below w.heap.size w W2 := by rw [← hW2]; exact below_drewN hbl1 _
                rw [hW2]
                clear hW2 hown1 hbl1 hcell
                have hsz2 := hbl2.size
                have hgl : g < W2.heap.size := row_lt hown2
                have hcap := row_cap hown2
                have b1 : (U.length : Int) ≤ (cg : Int) := by omega
                have b2 : (U.length : Int) ≤ (cg : Int) := by omega
                have b3 : (U.length : Int) ≤ (U.length : Int) := by omega
                have HO2 := Lib.hid hown2
                clear hown2
                go_wp2_with (at_builtin; refine wpList_append_own _ rfl _ _ 26 rfl W2.heap.size 9 i0 (.string ⟨#[]⟩) 1 16 Tryd.underlying26 hi hz0 hz1 hz2 rfl (by decide) _ _ _ rfl (World.ownsRow_nil _ _ _ _) ⟨g, 0, none⟩ U.length cg ((U.map encStr).take U.length) rfl (by first | (simp; done) | (simp; omega)) ?c1 ?c2 ?c3 ?c4 ?c5 ?_)
                case c1 => exact take_cells HO2.out U.length
                case c2 => exact take_strings _ _
                case c3 => unfold maxLen; omega
                case c4 => omega
                case c5 => first | (simp; done) | (simp; omega)
                intro v1 w1 hv1 hg1 _
                have hg1' : W2.grownBy w1 none := hg1
                have hOw1 := HO2.out.kept hg1' (Or.inr (by simp [Value.ownBlock]))
                have hv1' : w1.ownsRow W2.heap.size 9 1 v1 U.length ((U.map encStr).take U.length) := by
                  exact hv1
                have hbl3 := hbl2.grown hg1' hsz2 (fun j hj => by cases hj)
                have hsz3 := hg1'.size
                have hcell : w1.cell? ⟨blk, off + k, none⟩ = some (.string ⟨x.toArray⟩) := by
                  rw [hbl3.cell (p := ⟨blk, off + k, none⟩) HBLK]; exact HC0.out
                have HO3 := Lib.hid hOw1
                have HV1 := Lib.hid hv1'
                clear hv1 hv1' hOw1 hg1 hg1' HO2
                go_wp2_with (at_builtin; refine wpList_append_own _ rfl _ _ 26 rfl W2.heap.size 9 i0 (.string ⟨#[]⟩) 1 16 Tryd.underlying26 hi hz0 hz1 hz2 rfl (by decide) _ _ _ rfl (HV1.out.alloc _) ⟨w1.heap.size, 0, none⟩ 1 1 [encStr x] rfl rfl ?c1 ?c2 ?c3 ?c4 ?c5 ?_)
                case c1 => exact cell_one_new _ _ _
                case c2 => exact one_string _
                case c3 => unfold maxLen; omega
                case c4 => omega
                case c5 => first | (simp; done) | (simp; omega)
                intro v2 w2 hv2 hg2 _
                have hOw2 := (HO3.out.alloc (.cells #[encStr x] 9)).kept hg2 (Or.inr (row_ne_low HV1.out hgl))
                have hbl4 := (hbl3.alloc (by omega) _).grown hg2 (by simp; omega) (fun j hj => by have := (HV1.out.lt j hj).1; omega)
                have hsz4 := hg2.size
                rw [World.size_alloc] at hsz4
                have HO4 := Lib.hid hOw2
                have HV2 := Lib.hid hv2
                clear hv2 hOw2 hg2 HO3 HV1 hcell
                go_wp2_with (at_builtin; refine wpList_append_own _ rfl _ _ 26 rfl W2.heap.size 9 i0 (.string ⟨#[]⟩) 1 16 Tryd.underlying26 hi hz0 hz1 hz2 rfl (by decide) _ _ _ rfl HV2.out ⟨g, U.length, none⟩ 0 (cg - U.length) [] rfl rfl ?c1 ?c2 ?c3 ?c4 ?c5 ?_)
                case c1 => intro j u hj; simp at hj
                case c2 => intro u hu; simp at hu
                case c3 => unfold maxLen; omega
                case c4 => omega
                case c5 => omega
                intro v3 w3 hv3 hg3 _
                have hbl5 := hbl4.grown hg3 (by omega) (fun j hj => by have := (HV2.out.lt j hj).1; omega)
                have hnew : w3.ownsRow w.heap.size 9 1 v3 (kIns x U).length ((kIns x U).map encStr) := by
                  have hv3' := ownsRow_low hv3 hsz2
                  rw [HM.out]
                  have e1 : U.take U.length ++ [x] ++ U.drop U.length = U ++ [x] := by simp
                  have e2 : (U.map encStr).take U.length = U.map encStr := by rw [← List.length_map (f := encStr), List.take_length]
                  rw [e1, List.length_append, List.map_append]
                  rw [e2] at hv3'
                  simpa using hv3'
                clear hv3 hg3
                go_wp2
                go_roundw
                case rel => exact ⟨k + 1, by omega, by go_num, HA2, by rw [HUN.out]; exact hnew, hbl5⟩
                case measure => simp [intOf]; omega
      · have HR := Lib.hid (kTags_bad l k x hx hv)
        clear hx htk
        go_wp2_with (first | (go_at_call 14; refine (refTagOk_any _ _).mono ?_; rintro e w' ⟨rfl, rfl⟩))
        go_ret2
        rw [HR.out]
        exact ⟨_, rfl, World.ownsRow_nil _ _ _ _, hbl⟩
    · obtain rfl : k = l.length := by omega
      rw [List.take_length] at HA hown
      have hfine := kTags_fine l HA.out
      have hul := kUniq_length l
      by_cases hle : (kUniq l).length ≤ 16
      · rw [if_pos hle] at hfine
        have HF := Lib.hid hfine
        clear hfine
        generalize kUniq l = U at *
        obtain ⟨q, cq, rfl⟩ : ∃ q cq, u4 = .slice q U.length cq := by
          rcases hown.2 with ⟨h1, h0⟩ | ⟨g, cap, row, hv, hg, _⟩
          · exact ⟨_, _, h0 ▸ h1⟩
          · exact ⟨_, _, hv⟩
        go_wp2
        go_ret2
        rw [HF.out]
        exact ⟨_, rfl, hown, hbl⟩
      · rw [if_neg hle] at hfine
        have HF := Lib.hid hfine
        clear hfine
        generalize kUniq l = U at *
        have hle3 : (16 : Int) < U.length := by omega
        obtain ⟨q, cq, rfl⟩ : ∃ q cq, u4 = .slice q U.length cq := by
          rcases hown.2 with ⟨h1, h0⟩ | ⟨g, cap, row, hv, hg, _⟩
          · exact ⟨_, _, h0 ▸ h1⟩
          · exact ⟨_, _, hv⟩
        go_wp2
        go_ret2
        rw [HF.out]
        exact ⟨_, rfl, World.ownsRow_nil _ _ _ _, hbl⟩
end Go.Proofs.YtbcfbdkacnnkgaaDoor
