/- The document's index: Drop. -/
import Derived.Test.YtfpkeinknhijaaaGreatDixC
namespace Go.Proofs.YtfpkeinknhijaaaGreat
set_option linter.unusedVariables false
open Go.RowKit Go.Maps Go.Sort
attribute [local go_sem ↓] appS_eq

theorem rels_snoc : ∀ (ns : List Nat) (l : Nms) (n : Nat), relsM l (ns ++ [n]) = ((relM (relsM l ns).1 (n : Int)).1, (relsM l ns).2 ++ (if (relM (relsM l ns).1 (n : Int)).2.1 = true then [n] else []))
  | [], l, n => by
    show (_, _) = _
    simp only [relsM, List.nil_append]
    rfl
  | m :: r, l, n => by
    rw [List.cons_append, relsM, rels_snoc r, relsM]
    simp only
    split <;> simp
theorem all_dead {A : List En} (h : A.Pairwise (fun x y => x.id < y.id)) {k : Nat} {e : En} (he : A[k]? = some e) : A.set k ⟨e.id, e.tags, e.nums, false⟩ = A.map (deadE e.id) := by
  refine List.ext_getElem? fun j => ?_
  rw [List.getElem?_map, List.getElem?_set]
  by_cases hj : k = j
  · subst hj
    have hl := (List.getElem?_eq_some_iff.1 he).1
    rw [if_pos rfl, if_pos hl, he]
    show _ = some (deadE e.id e)
    unfold deadE
    rw [if_pos rfl]
  · rw [if_neg hj]
    cases hx : A[j]? with
    | none => rfl
    | some x =>
      show some x = some (deadE e.id x)
      have : x.id ≠ e.id := fun hi => by
        have e1 := ids_uniq h (List.mem_of_getElem? hx) (List.mem_of_getElem? he) hi
        subst e1
        obtain ⟨l1, r1⟩ := List.getElem?_eq_some_iff.1 he
        obtain ⟨l2, r2⟩ := List.getElem?_eq_some_iff.1 hx
        have hp := List.pairwise_iff_getElem.1 h
        rcases Nat.lt_or_ge k j with hlt | hge
        · have := hp k j l1 l2 hlt
          rw [r1, r2] at this
          exact absurd this (Nat.lt_irrefl _)
        · have := hp j k l2 l1 (by omega)
          rw [r1, r2] at this
          exact absurd this (Nat.lt_irrefl _)
      unfold deadE
      rw [if_neg this]
theorem ens_dead : ∀ {A : List En} {C : List Ec} {k : Nat} {e : En}, A[k]? = some e → C.length = A.length → (ensCs A C).set (k * 4 + 3) (.bool false) = ensCs (A.set k ⟨e.id, e.tags, e.nums, false⟩) C
  | [], C, k, e, h, _ => by simp at h
  | x :: A, [], k, e, _, h => by simp at h
  | x :: A, c :: C, 0, e, h, hl => by
    simp only [List.getElem?_cons_zero, Option.some.injEq] at h
    subst h
    rfl
  | x :: A, c :: C, k + 1, e, h, hl => by
    rw [List.getElem?_cons_succ] at h
    have hl2 : C.length = A.length := by simpa using hl
    rw [List.set_cons_succ, ensCs, ensCs, ← ens_dead h hl2, show (k + 1) * 4 + 3 = (enCs x c).length + (k * 4 + 3) by simp; omega, List.set_append_right _ _ (Nat.le_add_right _ _), Nat.add_sub_cancel_left]
theorem findE_cases (A : List En) (id : Nat) : (∃ (k : Nat) (e : En), findE A id = (k : Int) ∧ A[k]? = some e ∧ e.id = id ∧ e.live = true ∧ getE A id = some e) ∨ (findE A id = -1 ∧ getE A id = none) := by
  cases h : A.findIdx? (fun e => e.id == id && e.live) with
  | none =>
    have h2 := List.findIdx?_eq_none_iff.1 h
    refine .inr ⟨by unfold findE; rw [h], ?_⟩
    unfold getE
    exact List.find?_eq_none.2 (fun e he => by rw [h2 e he]; decide)
  | some i =>
    obtain ⟨hl, hp, hj⟩ := List.findIdx?_eq_some_iff_getElem.1 h
    have hp2 := hp
    rw [Bool.and_eq_true, beq_iff_eq] at hp2
    refine .inl ⟨i, A[i], by unfold findE; rw [h], List.getElem?_eq_getElem hl, hp2.1, hp2.2, ?_⟩
    unfold getE
    rw [List.find?_eq_some_iff_getElem]
    refine ⟨hp, i, hl, rfl, fun j hji => ?_⟩
    rw [Bool.eq_false_iff.2 (hj j hji)]
    rfl
theorem entInfo : (Tryz.prog.info? 75).map (fun i => (i.zero, i.size, i.bytes)) = some (some (.agg #[.int .u64 0, .slice none 0 0, .slice none 0 0, .bool false]), 4, 64) := by kernel_rfl
theorem ens_one : ∀ (A : List En) (C : List Ec), ∀ u ∈ ensCs A C, u.oneCell' = true
  | [], C, u, h => by simp [ensCs] at h
  | e :: A, [], u, h => by simp [ensCs] at h
  | e :: A, c :: C, u, h => by
    rw [ensCs] at h
    rcases List.mem_append.1 h with h | h
    · simp only [enCs, List.mem_cons, List.not_mem_nil, or_false] at h
      rcases h with h | h | h | h <;> (rw [h]; rfl)
    · exact ens_one A C u h
theorem own_p (p : Option Addr) (n c n' c' : Nat) : (Value.slice p n c).ownBlock = (Value.slice p n' c').ownBlock := by cases p <;> rfl
def DropR (w : World) (P : Nat → Prop) (most : Int) (r : Dx × List Nat × Int) (e : Ending) (w' : World) : Prop :=
  ∃ a' v, e = .returned (.tuple #[dixV most r.1 a', v, .int .i64 r.2.2]) ∧ w'.ownsRow w.heap.size 3 1 v r.2.1.length (numsV r.2.1) ∧ Dix w' (Nw w w' P) r.1 a' ∧ Below w.heap.size w w'
set_option maxHeartbeats 8000000 in
set_option maxRecDepth 100000 in
theorem xdrop_any {w : World} {P : Nat → Prop} {d : Dx} {a : Dp} (h : Dix w P d a) (hP : ∀ g, P g → g < w.heap.size) {most R : Int} (hw : Iw most R d) (hm : most ≤ 65536) (hR : R ≤ 2147483647) (hl : d.all.length ≤ 1000000) (id : Nat) :
    Calls Tryz.prog 11 #[dixV most d a, .int .u64 (id : Int)] w (DropR w P most (d.drop id)) := by
  have HBW : Hid (Below w.heap.size w ((w.alloc (.cells (dixCs most d a) 35)).alloc (.cells zeroX 35))) := ((Below.refl _ _).alloc (Nat.le_refl _) _).alloc (by simp) _
  have hbx := Blk.alloc (Blk.new w 35 (dixCs most d a)) (.cells zeroX 35)
  have hbr := Blk.new (w.alloc (.cells (dixCs most d a) 35)) 35 zeroX
  rw [show (w.alloc (.cells (dixCs most d a) 35)).heap.size = w.heap.size + 1 by simp] at hbr
  have H := Lib.hid (h.below HBW.out)
  have HBR := Lib.hid hbr
  have HBX := Lib.hid hbx
  have HPP := Lib.hid hP
  have HIW := Lib.hid hw
  obtain ⟨res, hres⟩ : ∃ res, d.drop id = res := ⟨_, rfl⟩
  rw [hres]
  have HRES := Lib.hid hres
  have HL := Lib.hid hl
  clear h hbx hbr hP hw hres hl
  go_enter Tryz.func11, Tryz.ntmps11
  have d0 := Blk.cell HBX.out 0
  have d1 := Blk.cell HBX.out 1
  have d2 := Blk.cell HBX.out 2
  have d3 := Blk.cell HBX.out 3
  simp only [List.getElem?_toArray, List.getElem?_cons_zero, List.getElem?_cons_succ] at d0 d1 d2 d3
  go_wp2_with fail
  clear d0 d1 d2 d3
  generalize (w.alloc (.cells (dixCs most d a) 35)).alloc (.cells zeroX 35) = W at *
  refine (xfind_any H.out most HL.out id).mono ?_
  rintro e w1 ⟨rfl, b1⟩
  have HBX1 := Lib.hid (Blk.below HBX.out b1 (Blk.lt HBX.out))
  have HBR1 := Lib.hid (Blk.below HBR.out b1 (Blk.lt HBR.out))
  have H1 := Lib.hid (H.out.below b1)
  have HBW1 := Lib.hid (HBW.out.trans (b1.mono HBW.out.size))
  have d0 := Blk.cell HBX1.out 0
  have d1 := Blk.cell HBX1.out 1
  have d2 := Blk.cell HBX1.out 2
  have d3 := Blk.cell HBX1.out 3
  have e0 := Blk.cell HBR1.out 0
  have e1 := Blk.cell HBR1.out 1
  have e2 := Blk.cell HBR1.out 2
  have e3 := Blk.cell HBR1.out 3
  have f0 := Blk.frozen HBR1.out 0
  have f1 := Blk.frozen HBR1.out 1
  have f2 := Blk.frozen HBR1.out 2
  have f3 := Blk.frozen HBR1.out 3
  have x2 := Blk.frozen HBX1.out 2
  simp only [List.getElem?_toArray, List.getElem?_cons_zero, List.getElem?_cons_succ] at d0 d1 d2 d3 e0 e1 e2 e3
  clear b1 H HBX HBR HBW
  rcases findE_cases d.all id with ⟨k, e, hf, he, hid_, hlv, hg⟩ | ⟨hf, hg⟩
  · obtain ⟨l1, hl1⟩ : ∃ l1, (relsM d.nm e.nums) = l1 := ⟨_, rfl⟩
    have hkl := (List.getElem?_eq_some_iff.1 he).1
    have HC : Hid (d.drop id = (⟨l1.1, d.all.set k ⟨e.id, e.tags, e.nums, false⟩, d.sl⟩, l1.2, 0)) := by
      unfold Hid Dx.drop
      rw [hg, ← hl1, all_dead HIW.out.ids he, hid_]
    obtain ⟨c, hc⟩ := H1.out.ec he
    have hnl := HIW.out.numsLen (List.mem_of_getElem? he)
    have HSUB := Lib.hid (H1.out.sub k e c he hc)
    obtain ⟨gA, hpA, hgA, -, hcA, hcell⟩ := H1.out.all.at_ (by omega)
    have n2 := hcell (k * 4 + 2) _ ((ens_get he hc 2 (by decide)).trans rfl)
    have HDD := Lib.hid (ens_dead he H1.out.len)
    have HE := Lib.hid he
    have HL1 := Lib.hid hl1
    have HWF := Lib.hid HIW.out.wf
    obtain ⟨M, hM⟩ : ∃ M, d.all.length = M := ⟨_, rfl⟩
    have HM := Lib.hid hM
    rw [hM, hpA] at d2
    rw [hM] at hkl hcA
    have hMl : M ≤ 1000000 := by rw [← hM]; exact HL.out
    obtain ⟨N, hN⟩ : ∃ N, e.nums.length = N := ⟨_, rfl⟩
    have HN := Lib.hid hN
    have hN16 : N ≤ 16 := by rw [← hN]; exact hnl.2
    have HPA := Lib.hid hpA
    obtain ⟨i0, hi0, hz0, hz1, hz2⟩ := info_parts entInfo
    obtain ⟨ii, hii, hy0, hy1, hy2⟩ := info_parts intInfo
    have HCELL := Lib.hid hcell
    have HB3 := Lib.hid ((ens_get he hc 3 (by decide)).trans rfl : (ensCs d.all a.C)[k * 4 + 3]? = some (.bool e.live))
    have HEC := Lib.hid hc
    have HLEN : Hid ((ensCs d.all a.C).length = M * 4) := by have := ens_len H1.out.len; rw [HM.out] at this; exact this
    rw [hf]
    clear hf hg hid_ hlv hnl hcell hc he hl1 hM hN e0 e1 e2 e3 f0 f1 f2 f3 n2 hpA
    go_wp2_with (at_builtin; refine wpList_append_lies _ rfl _ _ 32 rfl w1.heap.size 75 i0 (.agg #[.int .u64 0, .slice none 0 0, .slice none 0 0, .bool false]) 4 64 Tryz.underlying32 hi0 hz0 hz1 hz2 rfl (by decide) _ _ _ rfl (World.ownsRow_nil _ _ _ _) ⟨gA, 0, none⟩ M a.cA (ensCs d.all a.C) rfl HLEN.out ?c1 (ens_one _ _) (by omega) (by unfold maxLen; omega) (by omega) (Nat.le_refl _) w1.heap.size rfl ?_)
    case c1 => intro j u hj; rw [addr_add0]; exact HCELL.out j u hj
    intro g1 cap1 w2 o2 g2 _ hg1
    have g2' : w1.grownBy w2 none := g2
    have b2 : Below w1.heap.size w1 w2 := (Below.refl w1.heap.size w1).grown g2' (Nat.le_refl _) (fun j hj => by cases hj)
    have hX1 : w.heap.size < w1.heap.size := HBX1.out.lt
    have hR1 : w.heap.size + 1 < w1.heap.size := HBR1.out.lt
    have hg1w : w1.heap.size ≤ g1 := (o2.lt g1 rfl).1
    clear d0 d1 d2 d3 x2
    have hx2 := Blk.below HBX1.out b2 hX1
    have d0 := Blk.cell hx2 0
    have d1 := Blk.cell hx2 1
    have d2 := Blk.cell hx2 2
    have d3 := Blk.cell hx2 3
    have x2 := Blk.frozen hx2 2
    simp only [List.getElem?_toArray, List.getElem?_cons_zero, List.getElem?_cons_succ] at d0 d1 d2 d3
    have y3 := o2.frozenAt (k * 4 + 3)
    have hne1 : ¬ g1 = w.heap.size := by omega
    have hcl := (o2.cellAt (k * 4 + 3) (by omega)).trans HB3.out
    go_wp2_with fail
    have hx3 := Blk.far (p := ⟨g1, k * 4 + 3, none⟩) (Blk.set_ hx2 2 (.slice (some ⟨g1, 0, none⟩) M cap1)) (fun e => hne1 e.symm) (.bool false)
    have o3 := ((owns_set (k := w.heap.size) o2 (fun e => by simp [Value.ownBlock] at e; omega) 2 (.slice (some ⟨g1, 0, none⟩) M cap1)).stored (k * 4 + 3) (.bool false)).1
    rw [HDD.out] at o3
    have O3 : Only (fun g => g = w.heap.size) w1 ((w2.setCell ⟨w.heap.size, 2, none⟩ (.slice (some ⟨g1, 0, none⟩) M cap1)).setCell ⟨g1, k * 4 + 3, none⟩ (.bool false)) := ((Only.of_below b2 (fun g => g = w.heap.size)).setCell1 (.inl rfl) 2 (.slice (some ⟨g1, 0, none⟩) M cap1)).setCell1 (.inr hg1w) (k * 4 + 3) (.bool false)
    have hx3' : Blk ((w2.setCell ⟨w.heap.size, 2, none⟩ (.slice (some ⟨g1, 0, none⟩) M cap1)).setCell ⟨g1, k * 4 + 3, none⟩ (.bool false)) w.heap.size 35 #[.int .i64 most, .slice a.p d.nm.length a.c, (.slice (some ⟨g1, 0, none⟩) M cap1), .slice a.pS d.sl.length a.cS] := by simpa using hx3
    have hr3 := Blk.only HBR1.out O3 (by omega)
    have H3 := Lib.hid (H1.out.only O3 (fun g hg he => by have := HPP.out g hg; omega))
    have HBW3 := Lib.hid (HBW1.out.trans (O3.below (fun g hg => by omega) HBW1.out.size))
    have HSZ : Hid (w1.heap.size ≤ ((w2.setCell ⟨w.heap.size, 2, none⟩ (.slice (some ⟨g1, 0, none⟩) M cap1)).setCell ⟨g1, k * 4 + 3, none⟩ (.bool false)).heap.size) := O3.size
    have HBX3 := Lib.hid hx3'
    have HBR3 := Lib.hid hr3
    have ROW3 := Lib.hid o3
    have HX1 := Lib.hid hX1
    have HR1 := Lib.hid hR1
    have HG1 := Lib.hid hg1w
    obtain ⟨hsubT, hsubN⟩ := HSUB.out
    have HSN : Hid (RowS ((w2.setCell ⟨w.heap.size, 2, none⟩ (.slice (some ⟨g1, 0, none⟩) M cap1)).setCell ⟨g1, k * 4 + 3, none⟩ (.bool false)) P c.pn e.nums.length c.cn (numsV e.nums)) := hsubN.only O3 (fun g hg he => by have := HPP.out g hg; omega)
    clear hx3 hx3' o3 O3 hr3 hx2 o2 g2 g2' b2 d0 d1 d2 d3 x2 y3 hcl hne1 hX1 hR1 hg1w hg1 HBX1 HBR1 HBW1 hsubT hsubN HSUB hi0 hz0 hz1 hz2 HCELL
    generalize (w2.setCell ⟨w.heap.size, 2, none⟩ (.slice (some ⟨g1, 0, none⟩) M cap1)).setCell ⟨g1, k * 4 + 3, none⟩ (.bool false) = W3 at *
    have HN2 : Hid ((ensCs (d.all.set k ⟨e.id, e.tags, e.nums, false⟩) a.C)[k * 4 + 2]? = some (.slice c.pn N c.cn)) := by
      have h1 : (d.all.set k ⟨e.id, e.tags, e.nums, false⟩)[k]? = some ⟨e.id, e.tags, e.nums, false⟩ := by rw [List.getElem?_set, if_pos rfl, if_pos (by rw [HM.out]; exact hkl)]
      have := ens_get h1 HEC.out 2 (by decide)
      rw [← HN.out]
      exact this
    go_loopg [8, 9] N (fun r s8 s9 wr => ∃ (j nf : Nat) (p' q : Option Addr) (c' cq : Nat), r + j = N ∧ s9 = .int .i64 (j : Int) ∧ s8 = .slice q nf cq ∧ nf = (relsM d.nm (e.nums.take j)).2.length ∧ wr.ownsRow W3.heap.size 3 1 (.slice q nf cq) nf (numsV (relsM d.nm (e.nums.take j)).2) ∧ Rf wr 0 p' c' (relsM d.nm (e.nums.take j)).1 ∧ (∀ g, (Value.slice p' 0 0).ownBlock = some g → P g ∨ W3.heap.size ≤ g) ∧ (∀ g, (Value.slice q 0 0).ownBlock = some g → (Value.slice p' 0 0).ownBlock ≠ some g) ∧ Only (fun g => g = w.heap.size) W3 wr ∧ Blk wr w.heap.size 35 #[.int .i64 most, .slice p' (relsM d.nm (e.nums.take j)).1.length c', (.slice (some ⟨g1, 0, none⟩) M cap1), .slice a.pS d.sl.length a.cS])
    case atStart => exact ⟨0, 0, a.p, none, a.c, 0, by omega, rfl, rfl, rfl, World.ownsRow_nil _ _ _ _, H3.out.names, fun g hg => .inl (H3.out.namesP g hg), fun g hg => (by simp [Value.ownBlock] at hg), Only.refl _ _, HBX3.out⟩
    case round =>
      obtain ⟨j, nf, p', q, c', cq, hr, rfl, rfl, hnf, hrow, hrf, hpp, hqp, ho, hbx⟩ := hrel
      have HQP := Lib.hid hqp
      have HR := Lib.hid hr
      have hjN : j ≤ N := by omega
      have ROWF := Lib.hid hrow
      have HRF := Lib.hid hrf
      have HPN := Lib.hid hpp
      have HO := Lib.hid ho
      have HBXr := Lib.hid hbx
      have HNF := Lib.hid hnf
      have d0 := Blk.cell hbx 0
      have d1 := Blk.cell hbx 1
      have d2 := Blk.cell hbx 2
      have d3 := Blk.cell hbx 3
      have f0 := Blk.frozen hbx 0
      have f1 := Blk.frozen hbx 1
      simp only [List.getElem?_toArray, List.getElem?_cons_zero, List.getElem?_cons_succ] at d0 d1 d2 d3
      have ROWA := Lib.hid (ownsRow_only ROW3.out ho (fun g hg he => by have := HG1.out; have := HX1.out; simp [Value.ownBlock] at hg; omega))
      have n2 := (ROWA.out.cellAt (k * 4 + 2) (by rw [HM.out] at *; omega)).trans HN2.out
      have HWFj := Lib.hid (rels_wf (ns := e.nums.take j) HWF.out)
      have hSN := HSN.out.only ho (fun g hg he => by have := HPP.out g hg; omega)
      clear hr hnf hrow hrf hpp hqp ho hbx
      by_cases hlt : j < N
      · obtain ⟨n, hn⟩ : ∃ n, e.nums[j]? = some n := ⟨_, List.getElem?_eq_getElem (by rw [HN.out]; exact hlt)⟩
        rw [HN.out] at hSN
        obtain ⟨gN, hpn, -, -, -, hcn⟩ := hSN.at_ (by omega)
        have nj := hcn j (.int .i64 (n : Int)) (by rw [List.getElem?_map, hn]; rfl)
        rw [hpn] at n2
        have HTK : Hid (relsM d.nm (e.nums.take (j + 1)) = ((relM (relsM d.nm (e.nums.take j)).1 (n : Int)).1, (relsM d.nm (e.nums.take j)).2 ++ (if (relM (relsM d.nm (e.nums.take j)).1 (n : Int)).2.1 = true then [n] else []))) := by
          unfold Hid
          rw [List.take_add_one, hn]
          exact rels_snoc _ _ _
        obtain ⟨⟨lj, fj⟩, hz⟩ : ∃ z, relsM d.nm (e.nums.take j) = z := ⟨_, rfl⟩
        rw [hz] at HTK ROWF HRF HNF HWFj d1 HBXr
        simp only at HTK ROWF HRF HNF HWFj d1 HBXr
        obtain ⟨⟨l2, gone, er⟩, hrel2⟩ : ∃ z, relM lj (n : Int) = z := ⟨_, rfl⟩
        have hll : lj.length ≤ 99999 := by have := HWFj.out.size; omega
        have hREL := rrel_any (most := most) HRF.out HWFj.out hll hR (n : Int)
        rw [hrel2] at hREL HTK
        simp only at hREL HTK
        have HREL := Lib.hid hREL
        have hXw : w.heap.size < wr.heap.size := HBXr.out.lt
        have hfl : fj.length ≤ j := by
          have h1 := relsM_len (e.nums.take j) d.nm
          rw [hz] at h1
          refine Nat.le_trans h1 ?_
          rw [List.length_take]
          omega
        rw [← HNF.out] at hfl
        clear hcn hn hz hrel2 hREL hSN hpn
        have hgone : gone = true ∨ gone = false := by cases gone <;> simp
        rcases hgone with rfl | rfl
        · rw [if_pos rfl] at HTK
          go_wp2_with fail
          refine HREL.out.mono ?_
          rintro e4 w4 ⟨p2, c2, rfl, rf2, hp2, b4⟩
          have hbx4 := Blk.alloc (Blk.below HBXr.out b4 hXw) (.cells #[.int .i64 most, .slice p2 l2.length c2] 31)
          have d0 := Blk.cell hbx4 0
          have d1 := Blk.cell hbx4 1
          have f0 := Blk.frozen hbx4 0
          have f1 := Blk.frozen hbx4 1
          simp only [List.getElem?_toArray, List.getElem?_cons_zero, List.getElem?_cons_succ] at d0 d1
          go_upto_region 13 with (fail)
          have hq3 : ∀ g, (Value.slice q nf cq).ownBlock = some g → W3.heap.size ≤ g := fun g hg => (ROWF.out.lt g hg).1
          have hX3 : w.heap.size < W3.heap.size := Nat.lt_of_lt_of_le HX1.out HSZ.out
          have HBX5 : Hid (Blk (((w4.alloc (.cells #[.int .i64 most, .slice p2 l2.length c2] 31)).setCell ⟨w.heap.size, 0, none⟩ (.int .i64 most)).setCell ⟨w.heap.size, 1, none⟩ (.slice p2 l2.length c2)) w.heap.size 35 #[.int .i64 most, .slice p2 l2.length c2, (.slice (some ⟨g1, 0, none⟩) M cap1), .slice a.pS d.sl.length a.cS]) := by
            have := Blk.set_ (Blk.set_ hbx4 0 (.int .i64 most)) 1 (.slice p2 l2.length c2)
            unfold Hid
            simpa using this
          have O5 : Hid (Only (fun g => g = w.heap.size) W3 (((w4.alloc (.cells #[.int .i64 most, .slice p2 l2.length c2] 31)).setCell ⟨w.heap.size, 0, none⟩ (.int .i64 most)).setCell ⟨w.heap.size, 1, none⟩ (.slice p2 l2.length c2))) := ((((HO.out.trans (Only.of_below b4 (fun g => g = w.heap.size)) (fun g h => .inl h)).alloc (.cells #[.int .i64 most, .slice p2 l2.length c2] 31)).setCell1 (.inl rfl) 0 (.int .i64 most)).setCell1 (.inl rfl) 1 (.slice p2 l2.length c2))
          have ROW5 : Hid ((((w4.alloc (.cells #[.int .i64 most, .slice p2 l2.length c2] 31)).setCell ⟨w.heap.size, 0, none⟩ (.int .i64 most)).setCell ⟨w.heap.size, 1, none⟩ (.slice p2 l2.length c2)).ownsRow W3.heap.size 3 1 (.slice q nf cq) nf (numsV fj)) := owns_set (k := w.heap.size) (owns_set (k := w.heap.size) ((ownsRow_below ROWF.out b4).alloc (.cells #[.int .i64 most, .slice p2 l2.length c2] 31)) (fun e => by have := hq3 _ e; omega) 0 (.int .i64 most)) (fun e => by have := hq3 _ e; omega) 1 (.slice p2 l2.length c2)
          have HPN5 : Hid (∀ g, (Value.slice p2 0 0).ownBlock = some g → P g ∨ W3.heap.size ≤ g) := fun g hg => by
            rcases hp2 with rfl | hp2
            · exact HPN.out g hg
            · have := hp2 g hg; have := HO.out.size; exact .inr (by omega)
          have hpX : (Value.slice p2 l2.length c2).ownBlock ≠ some w.heap.size := fun e => by
            have e2 : (Value.slice p2 0 0).ownBlock = some w.heap.size := by rw [← e]; cases p2 <;> rfl
            rcases HPN5.out _ e2 with h | h
            · have := HPP.out _ h; omega
            · omega
          have HRF5 : Hid (Rf (((w4.alloc (.cells #[.int .i64 most, .slice p2 l2.length c2] 31)).setCell ⟨w.heap.size, 0, none⟩ (.int .i64 most)).setCell ⟨w.heap.size, 1, none⟩ (.slice p2 l2.length c2)) 0 p2 c2 l2) := owns_set (k := w.heap.size) (owns_set (k := w.heap.size) (rf2.alloc (.cells #[.int .i64 most, .slice p2 l2.length c2] 31)) hpX 0 (.int .i64 most)) hpX 1 (.slice p2 l2.length c2)
          have HQP5 : Hid (∀ g, (Value.slice q 0 0).ownBlock = some g → (Value.slice p2 0 0).ownBlock ≠ some g) := fun g hg e => by
            rcases hp2 with rfl | hp2
            · exact HQP.out g hg e
            · have h1 := hp2 g e
              have h2 := ownsRow_lt ROWF.out (g := g) (by rw [← hg]; exact own_p _ _ _ _ _)
              omega
          have hXY := O5.out.size
          clear hbx4 d0 d1 f0 f1 b4 rf2 hpX hp2 hq3
          generalize (((w4.alloc (.cells #[.int .i64 most, .slice p2 l2.length c2] 31)).setCell ⟨w.heap.size, 0, none⟩ (.int .i64 most)).setCell ⟨w.heap.size, 1, none⟩ (.slice p2 l2.length c2)) = W5 at *
          go_wp2_with (at_builtin; refine wpList_append_own_at _ rfl _ _ 40 rfl W3.heap.size 3 ii (.int .i64 0) 1 8 Tryz.underlying40 hii hy0 hy1 hy2 rfl (by decide) _ _ _ rfl (ROW5.out.alloc _) ⟨W5.heap.size, 0, none⟩ 1 1 [.int .i64 (n : Int)] rfl rfl ?c1 ?c2 ?c3 ?c4 ?c5 ?_)
          case c1 => exact cell_one_new _ _ _
          case c2 => exact one_int _ _
          case c3 => unfold maxLen; omega
          case c4 => omega
          case c5 => have := O5.out.size; simp; omega
          intro v' w6 hown hg6 _ hvb
          obtain ⟨q', cq', rfl⟩ := owns_form hown
          have O6 : Hid (Only (fun g => g = w.heap.size) W3 w6) := (O5.out.alloc _).trans (only_grown hg6) (fun g hg => .inr ((ROW5.out.lt g hg).1))
          have HBX6 : Hid (Blk w6 w.heap.size 35 #[.int .i64 most, .slice p2 l2.length c2, (.slice (some ⟨g1, 0, none⟩) M cap1), .slice a.pS d.sl.length a.cS]) := Blk.grown (Blk.alloc HBX5.out _) hg6 (fun e => by have := (ROW5.out.lt _ e.symm).1; have := HX1.out; have := HSZ.out; omega)
          have HRF6 : Hid (Rf w6 0 p2 c2 l2) := (HRF5.out.alloc _).kept hg6 (by
            cases hb : (Value.slice p2 l2.length c2).ownBlock with
            | none => exact .inl rfl
            | some gp => exact .inr (fun e => HQP5.out gp (by rw [own_p q 0 0 nf cq]; exact e.symm) (by rw [← hb]; exact own_p _ _ _ _ _)))
          have HQP6 : Hid (∀ g, (Value.slice q' 0 0).ownBlock = some g → (Value.slice p2 0 0).ownBlock ≠ some g) := fun g hg e => by
            rcases hvb with hv | hv
            · exact HQP5.out g (by rw [← hg, own_p q 0 0 nf cq, own_p q' 0 0 (nf + 1) cq']; exact hv.symm) e
            · have h1 : some g = some (W5.heap.size + 1) := by rw [← hg, own_p q' 0 0 (nf + 1) cq']; exact hv
              injection h1 with h1
              have h2 := ownsRow_lt HRF5.out (g := g) (by rw [← e]; exact own_p _ _ _ _ _)
              omega
          have HOWN := Lib.hid hown
          clear hown hg6
          go_wp2_with fail
          go_roundg (N - (j + 1))
          case measure => have := HR.out; omega
          case rel =>
            refine ⟨j + 1, nf + 1, p2, q', c2, cq', by omega, by go_num, rfl, ?_, ?_, ?_, HPN5.out, HQP6.out, O6.out, ?_⟩
            · rw [HTK.out, List.length_append, ← HNF.out]; rfl
            · rw [HTK.out]
              unfold numsV
              rw [List.map_append]
              exact HOWN.out
            · rw [HTK.out]; exact HRF6.out
            · rw [HTK.out]; exact HBX6.out
        · rw [if_neg (by decide), List.append_nil] at HTK
          go_wp2_with fail
          refine HREL.out.mono ?_
          rintro e4 w4 ⟨p2, c2, rfl, rf2, hp2, b4⟩
          have hbx4 := Blk.alloc (Blk.below HBXr.out b4 hXw) (.cells #[.int .i64 most, .slice p2 l2.length c2] 31)
          have d0 := Blk.cell hbx4 0
          have d1 := Blk.cell hbx4 1
          have f0 := Blk.frozen hbx4 0
          have f1 := Blk.frozen hbx4 1
          simp only [List.getElem?_toArray, List.getElem?_cons_zero, List.getElem?_cons_succ] at d0 d1
          go_upto_region 13 with (fail)
          have hq3 : ∀ g, (Value.slice q nf cq).ownBlock = some g → W3.heap.size ≤ g := fun g hg => (ROWF.out.lt g hg).1
          have hX3 : w.heap.size < W3.heap.size := Nat.lt_of_lt_of_le HX1.out HSZ.out
          have HBX5 : Hid (Blk (((w4.alloc (.cells #[.int .i64 most, .slice p2 l2.length c2] 31)).setCell ⟨w.heap.size, 0, none⟩ (.int .i64 most)).setCell ⟨w.heap.size, 1, none⟩ (.slice p2 l2.length c2)) w.heap.size 35 #[.int .i64 most, .slice p2 l2.length c2, (.slice (some ⟨g1, 0, none⟩) M cap1), .slice a.pS d.sl.length a.cS]) := by
            have := Blk.set_ (Blk.set_ hbx4 0 (.int .i64 most)) 1 (.slice p2 l2.length c2)
            unfold Hid
            simpa using this
          have O5 : Hid (Only (fun g => g = w.heap.size) W3 (((w4.alloc (.cells #[.int .i64 most, .slice p2 l2.length c2] 31)).setCell ⟨w.heap.size, 0, none⟩ (.int .i64 most)).setCell ⟨w.heap.size, 1, none⟩ (.slice p2 l2.length c2))) := ((((HO.out.trans (Only.of_below b4 (fun g => g = w.heap.size)) (fun g h => .inl h)).alloc (.cells #[.int .i64 most, .slice p2 l2.length c2] 31)).setCell1 (.inl rfl) 0 (.int .i64 most)).setCell1 (.inl rfl) 1 (.slice p2 l2.length c2))
          have ROW5 : Hid ((((w4.alloc (.cells #[.int .i64 most, .slice p2 l2.length c2] 31)).setCell ⟨w.heap.size, 0, none⟩ (.int .i64 most)).setCell ⟨w.heap.size, 1, none⟩ (.slice p2 l2.length c2)).ownsRow W3.heap.size 3 1 (.slice q nf cq) nf (numsV fj)) := owns_set (k := w.heap.size) (owns_set (k := w.heap.size) ((ownsRow_below ROWF.out b4).alloc (.cells #[.int .i64 most, .slice p2 l2.length c2] 31)) (fun e => by have := hq3 _ e; omega) 0 (.int .i64 most)) (fun e => by have := hq3 _ e; omega) 1 (.slice p2 l2.length c2)
          have HPN5 : Hid (∀ g, (Value.slice p2 0 0).ownBlock = some g → P g ∨ W3.heap.size ≤ g) := fun g hg => by
            rcases hp2 with rfl | hp2
            · exact HPN.out g hg
            · have := hp2 g hg; have := HO.out.size; exact .inr (by omega)
          have hpX : (Value.slice p2 l2.length c2).ownBlock ≠ some w.heap.size := fun e => by
            have e2 : (Value.slice p2 0 0).ownBlock = some w.heap.size := by rw [← e]; cases p2 <;> rfl
            rcases HPN5.out _ e2 with h | h
            · have := HPP.out _ h; omega
            · omega
          have HRF5 : Hid (Rf (((w4.alloc (.cells #[.int .i64 most, .slice p2 l2.length c2] 31)).setCell ⟨w.heap.size, 0, none⟩ (.int .i64 most)).setCell ⟨w.heap.size, 1, none⟩ (.slice p2 l2.length c2)) 0 p2 c2 l2) := owns_set (k := w.heap.size) (owns_set (k := w.heap.size) (rf2.alloc (.cells #[.int .i64 most, .slice p2 l2.length c2] 31)) hpX 0 (.int .i64 most)) hpX 1 (.slice p2 l2.length c2)
          have HQP5 : Hid (∀ g, (Value.slice q 0 0).ownBlock = some g → (Value.slice p2 0 0).ownBlock ≠ some g) := fun g hg e => by
            rcases hp2 with rfl | hp2
            · exact HQP.out g hg e
            · have h1 := hp2 g e
              have h2 := ownsRow_lt ROWF.out (g := g) (by rw [← hg]; exact own_p _ _ _ _ _)
              omega
          have hXY := O5.out.size
          clear hbx4 d0 d1 f0 f1 b4 rf2 hpX hp2 hq3
          generalize (((w4.alloc (.cells #[.int .i64 most, .slice p2 l2.length c2] 31)).setCell ⟨w.heap.size, 0, none⟩ (.int .i64 most)).setCell ⟨w.heap.size, 1, none⟩ (.slice p2 l2.length c2)) = W5 at *
          go_wp2_with fail
          go_roundg (N - (j + 1))
          case measure => have := HR.out; omega
          case rel =>
            refine ⟨j + 1, nf, p2, q, c2, cq, by omega, by go_num, rfl, ?_, ?_, ?_, HPN5.out, HQP5.out, O5.out, ?_⟩
            · rw [HTK.out]; exact HNF.out
            · rw [HTK.out]; exact ROW5.out
            · rw [HTK.out]; exact HRF5.out
            · rw [HTK.out]; exact HBX5.out
      · obtain rfl : j = N := by omega
        have hTK : relsM d.nm (e.nums.take j) = l1 := by rw [List.take_of_length_le (by rw [HN.out]; exact Nat.le_refl _)]; exact HL1.out
        rw [hTK] at ROWF HRF HNF d1 HBXr
        have hR3 : w.heap.size + 1 < W3.heap.size := Nat.lt_of_lt_of_le HR1.out HSZ.out
        have hbr := Blk.only HBR3.out HO.out (by omega)
        have e0 := Blk.cell hbr 0
        have e1 := Blk.cell hbr 1
        have e2 := Blk.cell hbr 2
        have e3 := Blk.cell hbr 3
        have f0 := Blk.frozen hbr 0
        have f1 := Blk.frozen hbr 1
        have f2 := Blk.frozen hbr 2
        have f3 := Blk.frozen hbr 3
        simp only [List.getElem?_toArray, List.getElem?_cons_zero, List.getElem?_cons_succ] at e0 e1 e2 e3
        have HBRr := Lib.hid hbr
        have HMS : Hid ((d.all.set k ⟨e.id, e.tags, e.nums, false⟩).length = M) := by unfold Hid; rw [List.length_set]; exact HM.out
        have HNFX := Lib.hid HNF.out
        clear hbr hTK hSN
        go_wp2_with fail
        have hz := putX_blk HBRr.out most ⟨l1.1, d.all.set k ⟨e.id, e.tags, e.nums, false⟩, d.sl⟩ ⟨p', c', some ⟨g1, 0, none⟩, cap1, a.pS, a.cS, a.C⟩
        have z0 := Blk.cell hz 0
        have z1 := Blk.cell hz 1
        have z2 := Blk.cell hz 2
        have z3 := Blk.cell hz 3
        have ho := putX_only (w := wr) (R := w.heap.size + 1) most ⟨l1.1, d.all.set k ⟨e.id, e.tags, e.nums, false⟩, d.sl⟩ ⟨p', c', some ⟨g1, 0, none⟩, cap1, a.pS, a.cS, a.C⟩
        have hMS := HMS.out
        simp only [putX, List.getElem?_toArray, List.getElem?_cons_zero, List.getElem?_cons_succ] at z0 z1 z2 z3 ho
        rw [hMS] at z0 z1 z2 z3 ho
        have o9 := (HO.out.more (S' := fun g => g = w.heap.size ∨ g = w.heap.size + 1) (fun g h => .inl (.inl h))).trans ho (fun g h => .inl (.inr h))
        exact bodyPost_ret (v := .tuple #[dixV most ⟨l1.1, d.all.set k ⟨e.id, e.tags, e.nums, false⟩, d.sl⟩ ⟨p', c', some ⟨g1, 0, none⟩, cap1, a.pS, a.cS, a.C⟩, .slice q nf cq, .int .i64 0]) (by simp [results, Tryz.results11, go_sem, z0, z1, z2, z3, hMS]) rfl (by
          rw [← HRES.out, HC.out]
          have hs := HBW3.out.size
          have hs1 := HSZ.out
          have hs2 := HX1.out
          have hs4 := o9.size
          have hs5 := HG1.out
          have hs6 := HR1.out
          have hD := H3.out.only o9 (fun g hg he => by have := HPP.out g hg; omega)
          refine ⟨⟨p', c', some ⟨g1, 0, none⟩, cap1, a.pS, a.cS, a.C⟩, _, rfl, ?_, ⟨?_, ?_, ?_, ?_, ?_, ?_⟩, HBW3.out.trans (o9.below (fun g hg => by omega) hs)⟩
          · rw [← HNFX.out]
            exact ownsRow_low (ownsRow_only ROWF.out ho (fun g hg he => by have := (ROWF.out.lt g hg).1; omega)) hs
          · exact ownsRow_only HRF.out ho (fun g hg he => by
              rcases HPN.out g (by rw [← hg]; exact own_p _ _ _ _ _) with h | h
              · have := HPP.out g h; omega
              · omega)
          · intro g hg
            rcases HPN.out g hg with h | h
            · exact .inl h
            · have h2 := ownsRow_lt HRF.out (g := g) (by rw [← hg]; exact own_p _ _ _ _ _)
              have h3 := ho.size
              exact .inr ⟨by omega, by omega⟩
          · show RowS _ _ _ (d.all.set k _).length _ _
            rw [hMS]
            have h := ownsRow_only ROW3.out o9 (fun g hg he => by simp [Value.ownBlock] at hg; omega)
            refine RowS.of_own h (by decide) (fun g hg => .inr ⟨?_, (h.lt g hg).2⟩)
            simp [Value.ownBlock] at hg
            omega
          · exact hD.slots.more (fun g hg => .inl hg)
          · rw [H3.out.len, List.length_set]
          · intro i e' c2' he' hc2'
            rw [List.getElem?_set] at he'
            by_cases hki : k = i
            · subst hki
              rw [if_pos rfl, if_pos (by rw [HM.out]; exact hkl)] at he'
              injection he' with he'
              have h5 := hD.sub k e c2' HE.out hc2'
              rw [← he']
              exact ⟨h5.1.more (fun g hg => .inl hg), h5.2.more (fun g hg => .inl hg)⟩
            · rw [if_neg hki] at he'
              have h5 := hD.sub i e' c2' he' hc2'
              exact ⟨h5.1.more (fun g hg => .inl hg), h5.2.more (fun g hg => .inl hg)⟩)
  · have HC : Hid (d.drop id = (d, [], 9)) := by unfold Hid Dx.drop; rw [hg]
    rw [hf]
    clear hf hg
    go_wp2_with fail
    have hz := putX_blk HBR1.out most d a
    have z0 := Blk.cell hz 0
    have z1 := Blk.cell hz 1
    have z2 := Blk.cell hz 2
    have z3 := Blk.cell hz 3
    have ho := putX_only (w := w1) (R := w.heap.size + 1) most d a
    simp only [putX, List.getElem?_toArray, List.getElem?_cons_zero, List.getElem?_cons_succ] at z0 z1 z2 z3 ho
    exact bodyPost_ret (v := .tuple #[dixV most d a, .slice none 0 0, .int .i64 9]) (by simp [results, Tryz.results11, go_sem, z0, z1, z2, z3]) rfl (by rw [← HRES.out, HC.out]; exact ⟨a, _, rfl, World.ownsRow_nil _ _ _ _, (H1.out.only ho (fun g hg he => by have := HPP.out g hg; omega)).more (fun g hg => .inl hg), HBW1.out.trans (ho.below (fun g hg => by omega) HBW1.out.size)⟩)
end Go.Proofs.YtfpkeinknhijaaaGreat
