/- Add of a new name. -/
import Derived.Test.YthngkimncdpekaaIntX
import Derived.Maps.AppendAt
namespace Go.Proofs.Ythngkimncdpekaa
set_option linter.unusedVariables false
open Go.RowKit Go.Maps Go.Sort

/-- A list that has grown by one. -/
theorem Tb.grownList {w w2 : World} {b : Nat} {most seed : Int} {hb hc : Nat} {lv fv v' : Value} {hd nx : List Int} {l : Nms} {fr : List Int} {many : Int} (t : Tb w b most seed hb hc lv fv hd nx l fr many)
    (hlen : l.length + 1 ≤ 100000) (o : Obj) (hg : (w.alloc o).grownBy w2 lv.ownBlock) (hown : w2.ownsRow 0 152 3 v' (l.length + 1) (nmCells l nx ++ [.string ⟨#[]⟩, .int .i64 0, .int .i64 0]))
    (hat : v'.ownBlock = lv.ownBlock ∨ v'.ownBlock = some (w.heap.size + 1)) :
    Tb (w2.setCell ⟨b, 3, none⟩ v') b most seed hb hc v' fv hd (nx ++ [0]) (l ++ [([], 0)]) fr many ∧ Only (inO b hb lv fv) w (w2.setCell ⟨b, 3, none⟩ v') ∧ (∀ k, inO b hb v' fv k → inO b hb lv fv k ∨ w.heap.size ≤ k) := by
  have hbl : b < w.heap.size := t.box.lt
  have hhl : hb < w.heap.size := ownsRow_lt t.heads rfl
  have hO : Only (fun g => lv.ownBlock = some g) w w2 := ((Only.refl (fun g => lv.ownBlock = some g) w).alloc o).trans (S' := fun g => lv.ownBlock = some g) ⟨hg.os, hg.tape, hg.output, hg.size, fun k hk hn => hg.block k hk (fun e => hn e.symm)⟩ (fun g h => .inl h)
  have hbox := t.box.only hO (fun e => t.bl e)
  have hheads := ownsRow_only t.heads hO (fun g hg e => t.hl (by simp [Value.ownBlock] at hg; rw [hg]; exact e))
  have hfree := t.free.only_ hO (fun g hg e => t.lf g e hg)
  have hb1 : v'.ownBlock ≠ some b := fun e => by
    rcases hat with h | h
    · exact t.bl (h.symm.trans e)
    · rw [h] at e; injection e with e; omega
  have hb2 : v'.ownBlock ≠ some hb := fun e => by
    rcases hat with h | h
    · exact t.hl (h.symm.trans e)
    · rw [h] at e; injection e with e; omega
  have hlf : ∀ g, v'.ownBlock = some g → fv.ownBlock ≠ some g := fun g e e2 => by
    rcases hat with h | h
    · exact t.lf g (h.symm.trans e) e2
    · rw [h] at e; injection e with e; have := t.fl g e2; omega
  have hcells : nmCells l nx ++ [.string ⟨#[]⟩, .int .i64 0, .int .i64 0] = nmCells (l ++ [([], 0)]) (nx ++ [0]) := (nmCells_snoc ([], 0) 0 t.len).symm
  rw [hcells] at hown
  have hll : (l ++ [(([] : List UInt8), (0 : Int))]).length = l.length + 1 := by simp
  refine ⟨⟨Blk.set_ hbox 3 _, owns_set hheads (fun e => t.bh (by simp [Value.ownBlock] at e; exact e.symm)) 3 _, ?_, reads_set hfree t.bf 3 _, by simp [t.len], t.pos, t.big, by rw [hll]; exact hlen, t.bh, hb1, hb2, t.bf, t.hf, hlf, t.seed0, t.seed1, fun g hg => ?_⟩, ?_, fun k hk => ?_⟩
  · rw [hll]; exact owns_set hown hb1 3 _
  · have := t.fl g hg
    have h2 := hO.size
    simp [World.setCell]
    omega
  · exact (hO.more (fun g h => .inl (.inr (.inr (.inl h))))).setCell1 (.inl (.inl rfl)) _ _
  · rcases hk with h | h | h | h
    · exact .inl (.inl h)
    · exact .inl (.inr (.inl h))
    · rcases hat with h2 | h2
      · exact .inl (.inr (.inr (.inl (h2.symm.trans h))))
      · rw [h2] at h; injection h with h; exact .inr (by omega)
    · exact .inl (.inr (.inr (.inr h)))

theorem cell_three_new (w : World) (x y z : Value) (t : TypeId) : ∀ (j : Nat) (u : Value), [x, y, z][j]? = some u → (w.alloc (.cells #[x, y, z] t)).cell? ((⟨w.heap.size, 0, none⟩ : Addr).add j) = some u := by
  intro j u hj
  rw [addr_add0, Blk.cell (Blk.new w t #[x, y, z]) j]
  rw [← hj]
  simp
theorem one_three (s : ByteArray) : ∀ u ∈ [Value.string s, Value.int .i64 0, Value.int .i64 0], u.oneCell' = true := by
  intro u hu
  simp at hu
  rcases hu with rfl | rfl <;> rfl
theorem bytes_back (s : ByteArray) : (⟨s.data.toList.toArray⟩ : ByteArray) = s := by
  cases s
  simp
/-- Once a number has been chosen for a new name. -/
def AddMid (w : World) (b : Nat) (most seed : Int) (hb hc : Nat) (lv fv : Value) (hd nx : List Int) (l : Nms) (s : List UInt8) (wx : World) : Prop :=
  ∃ g cap fv1 l1 nx1, Tb wx b most seed hb hc (.slice (some ⟨g, 0, none⟩) l1.length cap) fv1 hd nx1 l1 (freeI (putL l (lowest l) (s, 1))) (liveN l) ∧ lowest l < l1.length ∧ l1.set (lowest l) (s, 1) = putL l (lowest l) (s, 1) ∧ nx1.set (lowest l) (-1) = putL nx (lowest l) (-1) ∧
    Only (inO b hb lv fv) w wx ∧ (∀ k, inO b hb (.slice (some ⟨g, 0, none⟩) l1.length cap) fv1 k → inO b hb lv fv k ∨ w.heap.size ≤ k)

section
variable {w : World} {b : Nat} {O : Nat → Prop} {most seed R : Int} {l : Nms} (t : Tab w b O most seed l) (hm : 1 ≤ most) (hm2 : most ≤ 65536) (hw : Wf most R l)
include t hm hm2 hw
omit hm2 in
set_option maxHeartbeats 1000000 in
theorem add_full (s : ByteArray) (hs : s.size ≤ 140737488355328) (hv : validB s.data.toList = true) (hf : findN l s.data.toList = none) (hfull : most ≤ liveN l) :
    Calls Try.prog 58 #[.pointer (some ⟨b, 0, none⟩), .string s] w (AddP w b O most seed (addM most l s.data.toList)) := by
  have HN := Lib.hid (none_no t.box hm)
  have HV := Lib.hid (fun w => valid_yes s hv w)
  have hM : addM most l s.data.toList = (l, 0, 7) := by unfold addM; rw [if_pos hv, hf]; simp only; rw [if_pos hfull]
  rw [hM]
  have T := Lib.hid t
  have hle := liveN_le l
  have hsz := hw.size
  obtain ⟨hb, hc, lv, fv, hd, nx, ch, t1, t2, t3, t4⟩ := t
  have HF0 := find_any t1 t2 hw.dist s hs
  rw [hf] at HF0
  have HF : Hid (Calls _ _ _ _ fun e w' => e = .returned (.int .i64 (-1)) ∧ _) := HF0
  clear HF0
  have T1 := Lib.hid t1
  have heq : ((liveN l : Int) == most) = true := by rw [beq_iff_eq]; omega
  clear hv t1 t2 t3 t4 hM hw hf hfull hle hsz
  go_enter Try.func58, Try.ntmps58
  go_wp2_with fail
  refine HN.out.mono ?_
  rintro e w1 ⟨rfl, rfl⟩
  go_wp2_with fail
  refine (HV.out _).mono ?_
  rintro e w1 ⟨rfl, rfl⟩
  go_wp2_with fail
  refine HF.out.mono ?_
  rintro e w1 ⟨rfl, b1⟩
  obtain ⟨c0, c1, c2, c3, c4, c5⟩ := (T1.out.below b1).cells
  clear HF HN HV T1 c1 c2 c3 c4
  go_wp2_with fail
  go_quiet (fail)
  go_wp2_with fail
  go_ret2
  exact AddP.same (T.out.below (below_drewN b1 _)) (Only.of_below (below_drewN b1 _) _)
set_option maxHeartbeats 4000000 in
set_option maxRecDepth 100000 in
theorem add_new (s : ByteArray) (hs : s.size ≤ 140737488355328) (hv : validB s.data.toList = true) (hf : findN l s.data.toList = none) (hfull : ¬ most ≤ liveN l) :
    Calls Try.prog 58 #[.pointer (some ⟨b, 0, none⟩), .string s] w (AddP w b O most seed (addM most l s.data.toList)) := by
  have HN := Lib.hid (none_no t.box hm)
  have HV := Lib.hid (fun w => valid_yes s hv w)
  have hM : addM most l s.data.toList = (putL l (lowest l) (s.data.toList, 1), (lowest l : Int), 0) := by unfold addM; rw [if_pos hv, hf]; simp only; rw [if_neg hfull]
  rw [hM]
  have hsz := hw.size
  obtain ⟨hb, hc, lv, fv, hd, nx, ch, t1, t2, t3, t4⟩ := t
  have HF0 := find_any t1 t2 hw.dist s hs
  rw [hf] at HF0
  have HF : Hid (Calls _ _ _ _ fun e w' => e = .returned (.int .i64 (-1)) ∧ _) := HF0
  clear HF0
  have T1 := Lib.hid t1
  have T2 := Lib.hid t2
  have T3 := Lib.hid t3
  have HW := Lib.hid hw
  have HVV := Lib.hid hv
  have heq : ((liveN l : Int) == most) = false := by have := liveN_le l; rw [beq_eq_false_iff_ne]; omega
  clear hv t1 t2 t3 hM hw hf hfull
  go_enter Try.func58, Try.ntmps58
  go_wp2_with fail
  refine HN.out.mono ?_
  rintro e w1 ⟨rfl, rfl⟩
  go_wp2_with fail
  refine (HV.out _).mono ?_
  rintro e w1 ⟨rfl, rfl⟩
  go_wp2_with fail
  refine HF.out.mono ?_
  rintro e w1 ⟨rfl, b1⟩
  obtain ⟨c0, c1, c2, c3, c4, c5⟩ := (T1.out.below b1).cells
  clear HF HN HV c1 c2
  go_wp2_with fail
  go_quiet (fail)
  have b2 : Below w.heap.size w (w1.drewN nq) := below_drewN b1 nq
  clear c0 c3 c4 c5
  generalize w1.drewN nq = W1 at *
  have B2 := Lib.hid b2
  have TW := Lib.hid (T1.out.below b2)
  obtain ⟨c0, c1, c2, c3, c4, c5⟩ := TW.out.cells
  have hfz3 := (TW.out.thaw 3).1
  have hfz4 := (TW.out.thaw 4).1
  have HLE := Lib.hid (lowest_le l)
  clear b1 b2 c0 c1 c2 c5
  have hslices : (∃ p cap, lv = .slice p l.length cap) ∧ ∃ p cap, fv = .slice p (freeL l).length cap := by
    refine ⟨?_, ?_⟩
    · rcases T1.out.list.2 with ⟨e1, e2⟩ | ⟨g, cap, _, e1, _⟩
      · exact ⟨none, 0, by rw [e1, e2]⟩
      · exact ⟨_, _, e1⟩
    · obtain ⟨p, cap, e, _⟩ := T1.out.free
      rw [List.length_map, List.length_map] at e
      exact ⟨p, cap, e⟩
  obtain ⟨⟨lp, lcap, hlv⟩, ⟨fp, fcap, hfv⟩⟩ := hslices
  have HLV := Lib.hid hlv
  rw [hlv] at c3
  rw [hfv] at c4
  have hfl := freeL_len l
  have hlow := T1.out.low
  obtain ⟨F, hF⟩ : ∃ F, (freeL l).length = F := ⟨_, rfl⟩
  rw [hF] at c4 hfl hfv
  have HF := Lib.hid hF
  have HFV := Lib.hid hfv
  clear hlv hfv hF
  go_upto_if 61 with (fail)
  go_cut [7] (fun s7 wx => s7 = .int .i64 (lowest l) ∧ AddMid w b most seed hb hc lv fv hd nx l s.data.toList wx)
  case first =>
    rcases Nat.lt_or_ge (lowest l) l.length with hlt | hge
    · have htake := freeL_take hlt (s.data.toList, 1) rfl
      have hF1 : 0 < F := by have := HF.out; rw [htake] at this; simp at this; omega
      obtain ⟨blk, off, hfp, hblk, hFc, hcell⟩ : ∃ blk off, fp = some ⟨blk, off, none⟩ ∧ blk < W1.heap.size ∧ F ≤ fcap ∧ ∀ (i : Nat) (x : Int), (freeI l)[i]? = some x → W1.cell? ⟨blk, off + i, none⟩ = some (.int .i64 x) := by
        obtain ⟨p, cap, e, _, h0 | ⟨blk, off, rfl, h1, h2, h3⟩⟩ := TW.out.free
        · rw [List.length_map, List.length_map, HF.out] at h0; omega
        · rw [HFV.out] at e
          injection e with e1 e2 e3
          rw [List.length_map, List.length_map, HF.out] at h2
          refine ⟨blk, off, e1, h1, by rw [e3]; exact h2, fun i x hx => h3 i _ ?_⟩
          rw [List.getElem?_map, hx]; rfl
      subst hfp
      have hc0 : W1.cell? ⟨blk, off, none⟩ = some (.int .i64 (lowest l)) := hcell 0 _ (by unfold freeI; rw [htake]; rfl)
      have hfree2 : freeI l = (lowest l : Int) :: freeI (putL l (lowest l) (s.data.toList, 1)) := by
        unfold freeI putL
        rw [if_pos hlt, htake]
        rfl
      have hlen2 : (freeI (putL l (lowest l) (s.data.toList, 1))).length = F - 1 := by
        have : (freeI l).length = F := by rw [List.length_map, HF.out]
        rw [hfree2] at this
        simp at this
        simp
        omega
      obtain ⟨v', hv', hrd⟩ : ∃ v', v' = Value.slice (if fcap = 1 then some ⟨blk, off, none⟩ else some ⟨blk, off + 1, none⟩) (F - 1) (fcap - 1) ∧ Reads W1 v' (i64s (freeI (putL l (lowest l) (s.data.toList, 1)))) := by
        refine ⟨_, rfl, ?_⟩
        have hb := TW.out.free
        refine ⟨_, fcap - 1, by rw [List.length_map, hlen2], by rw [List.length_map, hlen2]; omega, ?_⟩
        rw [List.length_map, hlen2]
        by_cases h1 : fcap = 1
        · left; omega
        · right
          rw [if_neg h1]
          refine ⟨blk, off + 1, rfl, hblk, by omega, fun i x hx => ?_⟩
          rw [List.getElem?_map, Option.map_eq_some_iff] at hx
          obtain ⟨y, hy, rfl⟩ := hx
          have := hcell (i + 1) y (by rw [hfree2]; simpa using hy)
          rwa [show off + (i + 1) = off + 1 + i by omega] at this
      have hob : v'.ownBlock = fv.ownBlock := by
        rw [hv', HFV.out]
        by_cases h1 : fcap = 1 <;> simp [Value.ownBlock, h1]
      have HMid : Hid (∀ wx, Only (inO b hb lv fv) W1 wx → Tb wx b most seed hb hc lv v' hd nx l (freeI (putL l (lowest l) (s.data.toList, 1))) (liveN l) → AddMid w b most seed hb hc lv fv hd nx l s.data.toList wx) := by
        intro wx ho ht
        obtain ⟨g, cap, hlv2, _, _, _⟩ := ht.lform (by omega)
        subst hlv2
        refine ⟨g, cap, v', l, nx, ht, hlt, by unfold putL; rw [if_pos hlt], by unfold putL; rw [if_pos (by rw [T1.out.len]; exact hlt)], (Only.of_below B2.out _).trans ho (fun k h => .inl h), fun k hk => ?_⟩
        rcases hk with h | h | h | h
        · exact .inl (.inl h)
        · exact .inl (.inr (.inl h))
        · exact .inl (.inr (.inr (.inl h)))
        · rw [hob] at h; exact .inl (.inr (.inr (.inr h)))
      have T3 := Lib.hid (TW.out.setFree v' _ hrd (by rw [hob]; exact T1.out.bf) (by rw [hob]; exact T1.out.hf) (fun g hg => by rw [hob]; exact T1.out.lf g hg) (fun g hg => by rw [hob] at hg; exact TW.out.fl g hg))
      have O3 : Hid (Only (inO b hb lv fv) W1 (W1.setCell ⟨b, 4, none⟩ v')) := (Only.refl _ _).setCell1 (.inl (.inl rfl)) _ _
      have HV' := Lib.hid hv'
      clear htake hcell hfree2 hlen2 hrd hob hv'
      by_cases h1 : fcap = 1
      · have hv1 := HV'.out
        rw [if_pos h1] at hv1
        subst h1
        subst hv1
        obtain rfl : F = 1 := by omega
        clear HV'
        go_wp2_with fail
        go_region
        go_wp2_with fail
        go_meet
        exact ⟨rfl, HMid.out _ O3.out.drew T3.out.drew⟩
      · have hv1 := HV'.out
        rw [if_neg h1] at hv1
        subst hv1
        clear HV'
        go_wp2_with fail
        go_region
        go_wp2_with fail
        go_meet
        exact ⟨rfl, HMid.out _ O3.out.drew T3.out.drew⟩
    · have hL : lowest l = l.length := by have := HLE.out; omega
      have hfree0 : freeL l = [] := freeL_none hL
      have hput : putL l (lowest l) (s.data.toList, 1) = l ++ [(s.data.toList, 1)] := by unfold putL; rw [if_neg (by omega)]
      have hF0 : F = 0 := by rw [← HF.out, hfree0]; rfl
      have hfree2 : freeI (putL l (lowest l) (s.data.toList, 1)) = freeI l := by
        unfold freeI
        rw [hput, hfree0, freeL_snoc hL (s.data.toList, 1) rfl]
      have hlen1 : l.length + 1 ≤ 100000 := by have := liveN_le l; omega
      have HMid : Hid (∀ wx v', Only (inO b hb lv fv) W1 wx → (∃ g cap, v' = .slice (some ⟨g, 0, none⟩) (l.length + 1) cap) → Tb wx b most seed hb hc v' fv hd (nx ++ [0]) (l ++ [([], 0)]) (freeI l) (liveN l) → (∀ k, inO b hb v' fv k → inO b hb lv fv k ∨ W1.heap.size ≤ k) → AddMid w b most seed hb hc lv fv hd nx l s.data.toList wx) := by
        rintro wx _ ho ⟨g, cap, rfl⟩ ht hi
        have hll : (l ++ [(([] : List UInt8), (0 : Int))]).length = l.length + 1 := by simp
        refine ⟨g, cap, fv, l ++ [([], 0)], nx ++ [0], by rw [hll, hfree2]; exact ht, by rw [hll]; omega, ?_, ?_, (Only.of_below B2.out _).trans ho (fun k h => .inl h), fun k hk => ?_⟩
        · rw [hput, hL, List.set_append_right _ _ (Nat.le_refl _), Nat.sub_self]; rfl
        · unfold putL
          rw [if_neg (by rw [T1.out.len]; omega), hL, ← T1.out.len, List.set_append_right _ _ (Nat.le_refl _), Nat.sub_self]; rfl
        · rw [hll] at hk
          rcases hi k hk with h | h
          · exact .inl h
          · exact .inr (Nat.le_trans B2.out.size h)
      have HLL := Lib.hid hL
      obtain ⟨i0, hi, hz0, hz1, hz2⟩ := info_parts info_name
      subst hF0
      have HOL : Hid (W1.ownsRow 0 152 3 (.slice lp l.length lcap) l.length (nmCells l nx)) := HLV.out ▸ TW.out.list
      have HK3 : Hid (∀ w2, (W1.alloc (.cells #[.string ⟨#[]⟩, .int .i64 0, .int .i64 0] 152)).grownBy w2 (Value.slice lp l.length lcap).ownBlock → w2.cell? ⟨b, 3, none⟩ = some (.slice lp l.length lcap) ∧ w2.frozen? ⟨b, 3, none⟩ = false) := by
        intro w2 hg
        have hbl := TW.out.box.lt
        have hne : some b ≠ (Value.slice lp l.length lcap).ownBlock := fun e => TW.out.bl (by rw [HLV.out]; exact e.symm)
        have hbk := hg.block b (by simp; omega) hne
        have hb0 : (W1.alloc (.cells #[.string ⟨#[]⟩, .int .i64 0, .int .i64 0] 152)).heap[b]? = W1.heap[b]? := Below.heap_alloc _ _ _ hbl
        refine ⟨?_, ?_⟩
        · rw [World.cell?_of_block (w := W1) (a := ⟨b, 3, none⟩) (hbk.trans hb0)]; exact c3
        · rw [World.frozen?_of_block (w := W1) (a := ⟨b, 3, none⟩) (hbk.trans hb0)]; exact hfz3
      clear hfree0 hput hfree2 hge hL
      go_wp2_with (at_builtin; refine wpList_append_own_at _ rfl _ _ 143 rfl 0 152 i0 (.agg #[.string ⟨#[]⟩, .int .i64 0, .int .i64 0]) 3 32 Try.underlying143 hi hz0 hz1 hz2 rfl (by decide) (.slice lp l.length lcap) l.length (nmCells l nx) rfl (HOL.out.alloc _) ⟨W1.heap.size, 0, none⟩ 1 1 [.string ⟨#[]⟩, .int .i64 0, .int .i64 0] rfl rfl (cell_three_new _ _ _ _ _) (one_three _) (by unfold maxLen; omega) (by omega) (Nat.zero_le _) ?_; intro v2 w2 hown2 hg2 _ hat2; obtain ⟨g2, cap2, he2, _, _⟩ := hown2.form (by omega); rw [he2] at hown2 hat2 ⊢; obtain ⟨k3, hfz5⟩ := HK3.out w2 hg2)
      have hat3 : (Value.slice (some ⟨g2, 0, none⟩) (l.length + 1) cap2).ownBlock = lv.ownBlock ∨ (Value.slice (some ⟨g2, 0, none⟩) (l.length + 1) cap2).ownBlock = some (W1.heap.size + 1) := by
        rw [HLV.out]
        simpa using hat2
      obtain ⟨m1, m2, m3⟩ := TW.out.grownList hlen1 _ (by rw [HLV.out]; exact hg2) hown2 hat3
      have HFIN := Lib.hid (HMid.out _ _ m2 ⟨g2, cap2, rfl⟩ m1 m3)
      go_meet
      exact ⟨by rw [HLL.out], HFIN.out⟩
  case rest =>
    obtain ⟨hs7, g, cap, fv1, l1, nx1, ht, hlt1, hset, hsetn, ho, hin⟩ := hcut
    obtain ⟨n, hn⟩ : ∃ n, lowest l = n := ⟨_, rfl⟩
    rw [hn] at hs7 hlt1 hset hsetn ht
    have HNN := Lib.hid hn
    have HSET := Lib.hid hset
    have HSETN := Lib.hid hsetn
    have T5 := Lib.hid ht
    have HO5 := Lib.hid ho
    have HIN := Lib.hid hin
    subst hs7
    obtain ⟨c0, c1, c2, c3, c4, c5⟩ := T5.out.cells
    have hf0 := T5.out.thawl (n * 3)
    have hf1 := T5.out.thawl (n * 3 + 1)
    have hf2 := T5.out.thawl (n * 3 + 2)
    obtain ⟨n0, n1, n2⟩ := T5.out.names hlt1
    have hlow1 := T5.out.low
    have HLEN1 := Lib.hid hlt1
    clear hn hset hsetn ht ho hin TW hfz3 hfz4 HLV HFV HF hfl T1
    go_upto_region 18 with (fail)
    have t6 := T5.out.setName HLEN1.out s.data.toList 1 (-1)
    rw [HSET.out, HSETN.out, bytes_back s] at t6
    have o6 : Only (inO b hb lv fv) w (((wc.setCell ⟨g, n * 3, none⟩ (.string s)).setCell ⟨g, n * 3 + 1, none⟩ (.int .i64 1)).setCell ⟨g, n * 3 + 2, none⟩ (.int .i64 (-1))) := by
      have hg : inO b hb lv fv g ∨ w.heap.size ≤ g := HIN.out g (.inr (.inr (.inl rfl)))
      exact ((HO5.out.setCell1 hg _ _).setCell1 hg _ _).setCell1 hg _ _
    generalize ((wc.setCell ⟨g, n * 3, none⟩ (.string s)).setCell ⟨g, n * 3 + 1, none⟩ (.int .i64 1)).setCell ⟨g, n * 3 + 2, none⟩ (.int .i64 (-1)) = W6 at *
    have T6 := Lib.hid t6
    have O6 := Lib.hid o6
    clear t6 o6 T5 HO5 c0 c1 c2 c3 c4 c5 hf0 hf1 hf2 n0 n1 n2 HSET HSETN hlt1
    obtain ⟨c0, c1, c2, c3, c4, c5⟩ := T6.out.cells
    have hfz := (T6.out.thaw 5).1
    have T7 := Lib.hid (T6.out.setMany ((liveN l : Int) + 1))
    have O7 := Lib.hid (O6.out.setCell1 (g := b) (.inl (.inl rfl)) 5 (.int .i64 ((liveN l : Int) + 1)))
    have hlv1 := liveN_le l
    clear T6 O6
    go_wp2_with fail
    clear c0 c1 c2 c3 c4 c5 hfz
    generalize W6.setCell ⟨b, 5, none⟩ (.int .i64 ((liveN l : Int) + 1)) = W7 at *
    obtain ⟨c0, c1, c2, c3, c4, c5⟩ := T7.out.cells
    have hdead := lowest_dead l
    have hnl := lowest_le l
    rw [HNN.out] at hdead hnl
    have hmany : (liveN l : Int) + 1 = (liveN (putL l n (s.data.toList, 1)) : Int) := by
      rw [liveN_put hnl hdead (s.data.toList, 1) rfl]
      omega
    have HFIN : Hid (∀ (w' : World) (hb' hc' : Nat) (hd' nx' : List Int) (ch' : Nat → List Nat), Tb w' b most seed hb' hc' (.slice (some ⟨g, 0, none⟩) (putL l n (s.data.toList, 1)).length cap) fv1 hd' nx' (putL l n (s.data.toList, 1)) (freeI (putL l n (s.data.toList, 1))) ((liveN l : Int) + 1) → Chains (hsN seed) hd' nx' (putL l n (s.data.toList, 1)) ch' (fun _ => True) → hd'.length ≤ 140000 → (hb' = hb ∨ w.heap.size ≤ hb') → Only (inO b hb lv fv) w w' →
        AddP w b O most seed (putL l (lowest l) (s.data.toList, 1), (lowest l : Int), 0) (.returned (.tuple #[.int .i64 n, .int .i64 0])) w') := by
      intro w' hb' hc' hd' nx' ch' h1 h2 h3 h4 h5
      rw [hmany] at h1
      rw [HNN.out]
      refine ⟨inO b hb' (.slice (some ⟨g, 0, none⟩) (putL l n (s.data.toList, 1)).length cap) fv1, rfl, ⟨hb', hc', _, fv1, hd', nx', ch', h1, h2, fun _ => Iff.rfl, h3⟩, h5.more (fun k hk => .inl ((T3.out k).2 hk)), fun k hk => ?_⟩
      rcases hk with h | h | h | h
      · exact .inl ((T3.out k).2 (.inl h))
      · rcases h4 with h4 | h4
        · exact .inl ((T3.out k).2 (.inr (.inl (h.trans h4))))
        · exact .inr (by omega)
      · rcases HIN.out k (.inr (.inr (.inl h))) with h6 | h6
        · exact .inl ((T3.out k).2 h6)
        · exact .inr h6
      · rcases HIN.out k (.inr (.inr (.inr h))) with h6 | h6
        · exact .inl ((T3.out k).2 h6)
        · exact .inr h6
    have HDEAD := Lib.hid hdead
    clear hdead hmany
    by_cases hgr : (hd.length : Int) < (liveN l : Int) + 1
    · have HTX : Hid (∀ m, liveB (putL l n (s.data.toList, 1)) m = true → (nmAt (putL l n (s.data.toList, 1)) m).1.length ≤ 64) := by
        intro m hm0
        have key : ∀ x : List UInt8, validB x = true → x.length ≤ 64 := fun x hx => by
          unfold validB at hx
          rw [Bool.and_eq_true, decide_eq_true_eq, decide_eq_true_eq] at hx
          exact hx.2
        rw [liveB_put hnl] at hm0
        rw [nmAt_put hnl]
        split
        · exact key _ HVV.out
        · rename_i e
          rw [if_neg e] at hm0
          exact key _ (HW.out.text m hm0)
      go_quiet (fail)
      go_wp2_with fail
      refine (grow_any (T7.out.drewN _) (by omega) HTX.out).mono ?_
      rintro e w8 ⟨rfl, hb', hc', hd', nx', ch', t8, t9, t10, t11, t12⟩
      have HEND := Lib.hid (HFIN.out w8 hb' hc' hd' nx' ch' t8 t9 (by omega) (.inr (Nat.le_trans O7.out.size t11)) ((O7.out.drewN _).trans t12 (fun k hk => by
        rcases hk with h | h | h | h
        · exact .inl (.inl h)
        · exact .inl (.inr (.inl h))
        · exact HIN.out k (.inr (.inr (.inl h)))
        · exact HIN.out k (.inr (.inr (.inr h))))))
      clear t8 t9 t10 t11 t12 HFIN T7 O7 T2 HDEAD HIN
      go_wp2_with fail
      go_ret2
      exact HEND.out
    · have hgr2 : decide ((hd.length : Int) < (liveN l : Int) + 1) = false := by simpa using hgr
      go_quiet (fail)
      go_wp2_with fail
      refine (head_any (T7.out.drewN _) s hs).mono ?_
      rintro e w8 ⟨rfl, b8⟩
      have hi := hs_lt T7.out.pos seed s.data.toList
      have hLl : n < (putL l n (s.data.toList, 1)).length := by rw [putL_len _ _ _ hnl]; omega
      have hlive : liveB (putL l n (s.data.toList, 1)) n = true := by rw [liveB_put hnl, if_pos rfl]; rfl
      have htxt : (nmAt (putL l n (s.data.toList, 1)) n).1 = s.data.toList := by rw [nmAt_put hnl, if_pos rfl]
      have hch := (T2.out.put hnl HDEAD.out (s.data.toList, 1) (-1)).push (n := n) hlive (fun h => h rfl) (i := hsN seed s.data.toList % hd.length) (by rw [htxt])
      have HCH := Lib.hid (hch.congr (Q := fun _ => True) (fun m _ => ⟨fun _ => trivial, fun _ => by
        by_cases e : m = n
        · exact .inr e
        · exact .inl e⟩))
      obtain ⟨i, hie⟩ : ∃ i, hsN seed s.data.toList % hd.length = i := ⟨_, rfl⟩
      rw [hie] at hi HCH
      simp only [hie]
      have T8 := Lib.hid ((T7.out.drewN _).below b8)
      have O8 := Lib.hid ((O7.out.drewN _).trans (Only.of_below b8 (fun _ => False)) (fun _ h => h.elim))
      have hgg : inO b hb lv fv g ∨ w.heap.size ≤ g := HIN.out g (.inr (.inr (.inl rfl)))
      have hgh : g ≠ hb := fun e => T7.out.hl (by rw [e]; rfl)
      have T9 := Lib.hid ((T8.out.setNext hLl (hd.getD i 0)).setHead i n)
      have O9 := Lib.hid ((O8.out.setCell1 hgg (n * 3 + 2) (.int .i64 (hd.getD i 0))).setCell1 (g := hb) (.inl (.inr (.inl rfl))) i (.int .i64 (n : Int)))
      clear c0 c1 c2 c3 c4 c5
      obtain ⟨c0, c1, c2, c3, c4, c5⟩ := T8.out.cells
      obtain ⟨n0, n1, n2⟩ := T8.out.names hLl
      have hhd := T8.out.head hi
      have hf0 := T8.out.thawl (n * 3 + 2)
      have hf1 := (T8.out.thaw i).2
      have HHL : Hid ((hd.set i (n : Int)).length ≤ 140000) := by unfold Hid; rw [List.length_set]; exact t4
      have hlow2 := T8.out.low
      generalize hd.getD i 0 = X at *
      generalize (putL nx n (-1)).getD n 0 = Y at *
      clear b8 hlive htxt hch hie O7 T7 O8 T8 T2 HDEAD hgg HIN n0 n1 c0 c1 c2 c4 c5 HVV HW
      go_wp2_with fail
      go_region
      have HEND := Lib.hid (HFIN.out _ hb hc _ _ _ T9.out.drew HCH.out HHL.out (.inl rfl) O9.out.drew)
      clear HFIN T9 O9 HCH HHL n2 hhd hf0 hf1 c3
      go_wp2_with fail
      go_ret2
      exact HEND.out
theorem add_any (hR : R < 2147483647) (s : ByteArray) (hs : s.size ≤ 140737488355328) :
    Calls Try.prog 58 #[.pointer (some ⟨b, 0, none⟩), .string s] w (AddP w b O most seed (addM most l s.data.toList)) := by
  rcases Bool.eq_false_or_eq_true (validB s.data.toList) with hv | hv
  · cases hf : findN l s.data.toList with
    | some n => exact add_there t hm hw hR s hs hv n hf
    | none =>
      by_cases hfull : most ≤ liveN l
      · exact add_full t hm hw s hs hv hf hfull
      · exact add_new t hm hm2 hw s hs hv hf hfull
  · exact add_bad t hm s hv
end
end Go.Proofs.Ythngkimncdpekaa
