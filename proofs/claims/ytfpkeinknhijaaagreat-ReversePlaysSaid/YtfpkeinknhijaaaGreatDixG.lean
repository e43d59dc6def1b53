/- The document's index: Add that is taken. -/
import Derived.Test.YtfpkeinknhijaaaGreatDixD
import Derived.Test.YtfpkeinknhijaaaGreatDixE
import Derived.StillTailTactics
import Derived.Deep.AppendLies
namespace Go.Proofs.YtfpkeinknhijaaaGreat
set_option linter.unusedVariables false
open Go.RowKit Go.Maps Go.Sort
attribute [local go_sem ↓] appS_eq

/-- A whole row that is read. -/
theorem RowS.liesW {w : World} {P : Nat → Prop} {p : Option Addr} {n cap s : Nat} {xs : List Value} (h : RowS w P p n cap xs) (hl : xs.length = n * s) : Lies w s (.slice p n cap) n xs := by
  refine ⟨p, cap, rfl, hl, ?_⟩
  rcases h with h | ⟨g, h1, -, -, -, h5⟩
  · exact .inl h
  · exact .inr ⟨_, h1, fun j u hj => by rw [addr_at, Nat.zero_add]; exact h5 j u hj⟩
/-- A whole row of slots that is read. -/
theorem RowS.lies0 {w : World} {P : Nat → Prop} {p : Option Addr} {cap : Nat} {S : List (Nat × Nat)} (h : RowS w P p S.length cap (slCs S)) : Lies w 2 (.slice p S.length cap) S.length (slCs S) := by
  refine ⟨p, cap, rfl, by rw [sl_len], ?_⟩
  rcases h with h | ⟨g, h1, -, -, -, h5⟩
  · exact .inl h
  · exact .inr ⟨_, h1, fun j u hj => by rw [addr_at, Nat.zero_add]; exact h5 j u hj⟩
/-- Names that are added one by one: all so far were taken. -/
theorem adds_snoc {most : Int} : ∀ (A : List (List UInt8)) (l : Nms) (t : List UInt8), (addsM most l A).2.2 = 0 →
    ((addM most (addsM most l A).1 t).2.2 = 0 → addsM most l (A ++ [t]) = ((addM most (addsM most l A).1 t).1, (addsM most l A).2.1 ++ [(addM most (addsM most l A).1 t).2.1.toNat], 0)) ∧
    (∀ B, ¬ (addM most (addsM most l A).1 t).2.2 = 0 → (addsM most l (A ++ t :: B)).2.2 = (addM most (addsM most l A).1 t).2.2)
  | [], l, t, _ => by
    refine ⟨fun h => ?_, fun B h => ?_⟩
    · have h' : (addM most l t).2.2 = 0 := h
      show addsM most l [t] = ((addM most l t).1, [] ++ [(addM most l t).2.1.toNat], 0)
      rw [addsM, if_pos h']
      rfl
    · have h' : ¬ (addM most l t).2.2 = 0 := h
      show (addsM most l (t :: B)).2.2 = (addM most l t).2.2
      rw [addsM, if_neg h']
  | s :: A, l, t, h0 => by
    by_cases hs : (addM most l s).2.2 = 0
    · have e : addsM most l (s :: A) = ((addsM most (addM most l s).1 A).1, (addM most l s).2.1.toNat :: (addsM most (addM most l s).1 A).2.1, (addsM most (addM most l s).1 A).2.2) := by rw [addsM, if_pos hs]
      rw [e] at h0 ⊢
      obtain ⟨h1, h2⟩ := adds_snoc A (addM most l s).1 t h0
      refine ⟨fun h => ?_, fun B h => ?_⟩
      · rw [List.cons_append, addsM, if_pos hs, h1 h]
        rfl
      · rw [List.cons_append, addsM, if_pos hs]
        exact h2 B h
    · rw [addsM, if_neg hs] at h0
      exact absurd h0 hs
theorem adds_wf {most R : Int} : ∀ (A : List (List UInt8)) (l : Nms), Wf most R l → 0 ≤ R → (addsM most l A).2.2 = 0 → Wf most (R + A.length) (addsM most l A).1
  | [], l, h, _, _ => h.mono (by simp)
  | s :: A, l, h, hR, h0 => by
    by_cases hs : (addM most l s).2.2 = 0
    · have e : addsM most l (s :: A) = ((addsM most (addM most l s).1 A).1, (addM most l s).2.1.toNat :: (addsM most (addM most l s).1 A).2.1, (addsM most (addM most l s).1 A).2.2) := by rw [addsM, if_pos hs]
      rw [e] at h0 ⊢
      have := adds_wf A (addM most l s).1 (h.add (by omega) s) (by omega) h0
      rw [List.length_cons]
      rwa [show R + 1 + (A.length : Int) = R + ((A.length + 1 : Nat) : Int) by omega] at this
    · rw [addsM, if_neg hs] at h0
      exact absurd h0 hs
/- Add that is taken. -/
/-- Between two rounds of Add: W4 is the world in which the index's box X and the entry's box E0 lie; j names were added. -/
structure AddSt (W4 wr : World) (P : Nat → Prop) (X E0 : Nat) (most : Int) (id : Nat) (d : Dx) (a : Dp) (ts : List (List UInt8)) (p3 : Option Addr) (k3 N K j : Nat) (p' qs qn : Option Addr) (c' cs cn : Nat) : Prop where
  ok : (addsM most d.nm (ts.take j)).2.2 = 0
  len : (addsM most d.nm (ts.take j)).2.1.length = j
  names : Rf wr 0 p' c' (addsM most d.nm (ts.take j)).1
  namesP : ∀ g, (Value.slice p' 0 0).ownBlock = some g → P g ∨ W4.heap.size ≤ g
  bx : Blk wr X 35 #[.int .i64 most, .slice p' (addsM most d.nm (ts.take j)).1.length c', .slice a.pA d.all.length a.cA, .slice qs (K + j) cs]
  be : Blk wr E0 75 #[.int .u64 (id : Int), .slice p3 N k3, .slice qn j cn, .bool true]
  srow : wr.ownsRow W4.heap.size 87 2 (.slice qs (K + j) cs) (K + j) (slCs (d.sl ++ (addsM most d.nm (ts.take j)).2.1.map (fun n => (n, id))))
  nrow : wr.ownsRow W4.heap.size 3 1 (.slice qn j cn) j (numsV (addsM most d.nm (ts.take j)).2.1)
  sn : ∀ g, (Value.slice qs 0 0).ownBlock = some g → (Value.slice qn 0 0).ownBlock ≠ some g
  sp : ∀ g, (Value.slice qs 0 0).ownBlock = some g → (Value.slice p' 0 0).ownBlock ≠ some g
  np : ∀ g, (Value.slice qn 0 0).ownBlock = some g → (Value.slice p' 0 0).ownBlock ≠ some g
  only : Only (fun g => g = X ∨ g = E0) W4 wr
set_option maxHeartbeats 16000000 in
set_option maxRecDepth 100000 in
theorem xadd_good {w : World} {P : Nat → Prop} {d : Dx} {a : Dp} (h : Dix w P d a) (hP : ∀ g, P g → g < w.heap.size) {most R : Int} (hw : Iw most R d) (hm : most ≤ 65536) (hR0 : 0 ≤ R) (hR : R ≤ 2147483000) (hl : d.all.length ≤ 100000) (hls : d.sl.length ≤ 100000) (id : Nat) (hid : id ≤ 18446744073709551615) (v : Value) (ts : List (List UInt8)) (hv : Reads w v (ts.map encStr)) (hlt : lastE d.all < id) (htb : tagsB ts = true) :
    Calls Tryz.prog 9 #[dixV most d a, .int .u64 (id : Int), v] w (AddR w P most (d.add most id ts)) := by
  have HBW : Hid (Below w.heap.size w ((w.alloc (.cells (dixCs most d a) 35)).alloc (.cells zeroX 35))) := ((Below.refl _ _).alloc (Nat.le_refl _) _).alloc (by simp) _
  have hbx := Blk.alloc (Blk.new w 35 (dixCs most d a)) (.cells zeroX 35)
  have hbr := Blk.new (w.alloc (.cells (dixCs most d a) 35)) 35 zeroX
  rw [show (w.alloc (.cells (dixCs most d a) 35)).heap.size = w.heap.size + 1 by simp] at hbr
  have H := Lib.hid (h.below HBW.out)
  have HBR := Lib.hid hbr
  have HBX := Lib.hid hbx
  have HPP := Lib.hid hP
  have HIW := Lib.hid hw
  obtain ⟨htv, -, ht16, -⟩ := tagsB_is htb
  have HTV := Lib.hid htv
  obtain ⟨M, hM⟩ : ∃ M, d.all.length = M := ⟨_, rfl⟩
  have HM := Lib.hid hM
  rw [hM] at hl
  obtain ⟨K, hK⟩ : ∃ K, d.sl.length = K := ⟨_, rfl⟩
  have HK := Lib.hid hK
  rw [hK] at hls
  obtain ⟨N, hN⟩ : ∃ N, ts.length = N := ⟨_, rfl⟩
  have HN := Lib.hid hN
  obtain ⟨res, hres⟩ : ∃ res, d.add most id ts = res := ⟨_, rfl⟩
  rw [hres]
  have HRES := Lib.hid hres
  have hv0 := hv
  obtain ⟨pv, cv, rfl, -, -⟩ := hv0
  rw [List.length_map] at hv ⊢
  have HV := Lib.hid (hv.below HBW.out)
  have HV0 := Lib.hid hv
  have HTB := Lib.hid htb
  have HLTT := Lib.hid hlt
  rw [hN] at HV HV0 ht16 ⊢
  obtain ⟨istr, histr, hs0, hs1, hs2⟩ := info_parts info_str
  obtain ⟨isl, hisl, hl0, hl1, hl2⟩ := info_parts slotInfo
  obtain ⟨ii, hii, hy0, hy1, hy2⟩ := info_parts intInfo
  obtain ⟨ien, hien, hn0, hn1, hn2⟩ := info_parts entInfo
  clear h hbx hbr hP hM hv hw hK hN hres htv htb
  go_enter Tryz.func9, Tryz.ntmps9
  have d0 := Blk.cell HBX.out 0
  have d1 := Blk.cell HBX.out 1
  have d2 := Blk.cell HBX.out 2
  have d3 := Blk.cell HBX.out 3
  simp only [List.getElem?_toArray, List.getElem?_cons_zero, List.getElem?_cons_succ] at d0 d1 d2 d3
  rw [HM.out] at d2
  rw [HK.out] at d3
  go_upto_region 1 with (fail)
  clear d0 d1 d2 d3
  generalize (w.alloc (.cells (dixCs most d a) 35)).alloc (.cells zeroX 35) = W at *
  have HT : Hid (Calls Tryz.prog 39 #[.slice pv N cv] W fun e w' => e = .returned (.bool true) ∧ Below W.heap.size W w') := by
    have h1 := HV.out
    rw [← HN.out] at h1
    have := xtags_any _ ts W h1 (by rw [HN.out]; omega)
    rw [HTB.out, HN.out] at this
    exact this
  have d0 := Blk.cell HBX.out 0
  have d1 := Blk.cell HBX.out 1
  have d2 := Blk.cell HBX.out 2
  have d3 := Blk.cell HBX.out 3
  simp only [List.getElem?_toArray, List.getElem?_cons_zero, List.getElem?_cons_succ] at d0 d1 d2 d3
  rw [HM.out] at d2
  rw [HK.out] at d3
  have h0' : ¬ (id : Int) = 0 := by omega
  have h0b : ((id : Int) == 0) = false := by simp; omega
  rcases Nat.eq_zero_or_pos M with hM0 | hM0
  · subst hM0
    go_upto_region 4 with (go_at_call 39; refine HT.out.mono ?_; rintro e9 w9 ⟨rfl, b9⟩; have HBX9 := Lib.hid (Blk.below HBX.out b9 (Blk.lt HBX.out)); have d0 := Blk.cell HBX9.out 0; have d1 := Blk.cell HBX9.out 1; have d2 := Blk.cell HBX9.out 2; have d3 := Blk.cell HBX9.out 3; simp only [List.getElem?_toArray, List.getElem?_cons_zero, List.getElem?_cons_succ] at d0 d1 d2 d3; rw [HM.out] at d2; rw [HK.out] at d3)
    clear d0 d1 d2 d3
    have HB9 := Lib.hid b9
    have HBR9 := Lib.hid (Blk.below HBR.out b9 (Blk.lt HBR.out))
    have H9 := Lib.hid (H.out.below b9)
    have hal9 : Below w9.heap.size w9 (w9.alloc (.cells #[.int .i64 most, .slice a.p d.nm.length a.c, .slice a.pA 0 a.cA, .slice a.pS K a.cS] 35)) := (Below.refl _ _).alloc (Nat.le_refl _) _
    have hv9 : Reads (w9.alloc (.cells #[.int .i64 most, .slice a.p d.nm.length a.c, .slice a.pA 0 a.cA, .slice a.pS K a.cS] 35)) (.slice pv N cv) (ts.map encStr) := (HV.out.below b9).below hal9
    have HBXa := Lib.hid (HBX9.out.below hal9 HBX9.out.lt)
    have HBRa := Lib.hid (HBR9.out.below hal9 HBR9.out.lt)
    have Ha := Lib.hid (H9.out.below hal9)
    have HB0 : Hid (Blk (w9.alloc (.cells #[.int .i64 most, .slice a.p d.nm.length a.c, .slice a.pA 0 a.cA, .slice a.pS K a.cS] 35)) w9.heap.size 35 (dixCs most d a)) := by
      unfold Hid dixCs
      rw [HM.out, HK.out]
      exact Blk.new _ _ _
    have HBa := Lib.hid (HB9.out.trans (hal9.mono HB9.out.size))
    have HSa : Hid (W.heap.size ≤ w9.heap.size) := HB9.out.size
    have HVa := Lib.hid hv9
    clear b9 hal9 hv9 HBX9 HBR9 H9 HB9
    obtain ⟨B0, hB0⟩ : ∃ B0, w9.heap.size = B0 := ⟨_, rfl⟩
    rw [hB0] at HB0 HSa
    simp only [hB0]
    clear hB0
    generalize w9.alloc (.cells #[.int .i64 most, .slice a.p d.nm.length a.c, .slice a.pA 0 a.cA, .slice a.pS K a.cS] 35) = W2 at *
    go_wp2_with (at_builtin; refine wpList_append_reads _ rfl _ _ 36 rfl W2.heap.size 9 istr (.string ⟨#[]⟩) 16 Tryz.underlying36 histr hs0 hs1 hs2 rfl _ _ _ rfl (World.ownsRow_nil _ _ _ _) _ (ts.map encStr) rfl HVa.out (one_strings _) (by rw [List.length_map, HN.out]; unfold maxLen; omega) (by rw [List.length_map, HN.out]; omega) (Nat.le_refl _) ?_)
    intro v3 w3 o3 g3 _
    rw [HN.out] at o3
    obtain ⟨p3, k3, rfl⟩ := owns_form o3
    have g3' : W2.grownBy w3 none := g3
    have b3 : Below W2.heap.size W2 w3 := (Below.refl _ _).grown g3' (Nat.le_refl _) (fun j hj => by cases hj)
    have hal3 : Below w3.heap.size w3 (w3.alloc (.cells #[.int .u64 (id : Int), .slice p3 N k3, .slice none 0 0, .bool true] 75)) := (Below.refl _ _).alloc (Nat.le_refl _) _
    have b4 : Below W2.heap.size W2 (w3.alloc (.cells #[.int .u64 (id : Int), .slice p3 N k3, .slice none 0 0, .bool true] 75)) := b3.trans (hal3.mono b3.size)
    have HBX4 := Lib.hid (HBXa.out.below b4 HBXa.out.lt)
    have HBR4 := Lib.hid (HBRa.out.below b4 HBRa.out.lt)
    have HB04 := Lib.hid (HB0.out.below b4 HB0.out.lt)
    have H4 := Lib.hid (Ha.out.below b4)
    have HB4 := Lib.hid (HBa.out.trans (b4.mono HBa.out.size))
    have O3 := Lib.hid (o3.alloc (.cells #[.int .u64 (id : Int), .slice p3 N k3, .slice none 0 0, .bool true] 75))
    have HE4 : Hid (Blk (w3.alloc (.cells #[.int .u64 (id : Int), .slice p3 N k3, .slice none 0 0, .bool true] 75)) w3.heap.size 75 #[.int .u64 (id : Int), .slice p3 N k3, .slice none 0 0, .bool true]) := Blk.new _ _ _
    have HE0 : Hid (W2.heap.size ≤ w3.heap.size ∧ W.heap.size ≤ W2.heap.size) := ⟨b3.size, HBa.out.size⟩
    go_upto_region 5 with (fail)
    have HP3 : Hid (∀ g, (Value.slice p3 0 0).ownBlock = some g → W2.heap.size ≤ g ∧ g < w3.heap.size) := fun g hg => o3.lt g (by rw [← hg]; exact own_p _ _ _ _ _)
    obtain ⟨E0, hE0⟩ : ∃ E0, w3.heap.size = E0 := ⟨_, rfl⟩
    rw [hE0] at HE4 HE0 HP3
    simp only [hE0]
    clear hE0 hal3 b4 b3 g3 g3' o3
    generalize w3.alloc (.cells #[.int .u64 (id : Int), .slice p3 N k3, .slice none 0 0, .bool true] 75) = W4 at *
    have d3 := Blk.cell HBX4.out 3
    simp only [List.getElem?_toArray, List.getElem?_cons_zero, List.getElem?_cons_succ] at d3
    rw [HK.out] at d3
    have HLS : Hid (Lies W4 2 (.slice a.pS K a.cS) K (slCs d.sl)) := by
      have h := H4.out.slots.lies0
      rw [HK.out] at h
      exact h
    go_wp2_with (at_builtin; refine wpList_append_lying _ rfl _ _ 33 rfl W4.heap.size 87 isl (.agg #[.int .i64 0, .int .u64 0]) 2 16 Tryz.underlying33 hisl hl0 hl1 hl2 rfl (by decide) _ _ _ rfl (World.ownsRow_nil _ _ _ _) _ K (slCs d.sl) rfl HLS.out (sl_one _) (by unfold maxLen; omega) (by omega) (Nat.le_refl _) ?_)
    intro v5 w5 o5 g5 _
    obtain ⟨p5, k5, rfl⟩ := owns_form o5
    have g5' : W4.grownBy w5 none := g5
    have b5 : Below W4.heap.size W4 w5 := (Below.refl _ _).grown g5' (Nat.le_refl _) (fun j hj => by cases hj)
    have hX2 : w.heap.size < W2.heap.size := HBXa.out.lt
    have hR2 : w.heap.size + 1 < W2.heap.size := HBRa.out.lt
    have hB2 : B0 < W2.heap.size := HB0.out.lt
    have hE4 : E0 < W4.heap.size := HE4.out.lt
    have hE2 := HE0.out.1
    have hx5 := Blk.below HBX4.out b5 (by omega)
    have d3 := Blk.cell hx5 3
    have x3 := Blk.frozen hx5 3
    simp only [List.getElem?_toArray, List.getElem?_cons_zero, List.getElem?_cons_succ] at d3
    rw [HK.out] at d3
    have O5 := Lib.hid o5
    go_upto_region 6 with (fail)
    have O6 : Hid (Only (fun g => g = w.heap.size ∨ g = E0) W4 (w5.setCell ⟨w.heap.size, 3, none⟩ (.slice p5 K k5))) := (Only.of_below b5 (fun g => g = w.heap.size ∨ g = E0)).setCell1 (.inl (.inl rfl)) 3 _
    have HBX6 : Hid (Blk (w5.setCell ⟨w.heap.size, 3, none⟩ (.slice p5 K k5)) w.heap.size 35 #[.int .i64 most, .slice a.p d.nm.length a.c, .slice a.pA d.all.length a.cA, .slice p5 K k5]) := by
      have := Blk.set_ hx5 3 (.slice p5 K k5)
      unfold Hid
      simpa using this
    have HE6 : Hid (Blk (w5.setCell ⟨w.heap.size, 3, none⟩ (.slice p5 K k5)) E0 75 #[.int .u64 (id : Int), .slice p3 N k3, .slice none 0 0, .bool true]) := Blk.far (p := ⟨w.heap.size, 3, none⟩) (Blk.below HE4.out b5 hE4) (by show E0 ≠ w.heap.size; omega) _
    have OS6 : Hid ((w5.setCell ⟨w.heap.size, 3, none⟩ (.slice p5 K k5)).ownsRow W4.heap.size 87 2 (.slice p5 K k5) K (slCs d.sl)) := owns_set (k := w.heap.size) o5 (fun e => by have := (o5.lt _ e).1; omega) 3 _
    clear hx5 d3 x3 o5 g5 g5' b5
    generalize w5.setCell ⟨w.heap.size, 3, none⟩ (.slice p5 K k5) = W6 at *
    have HD6 := Lib.hid (H4.out.only O6.out (fun g hg he => by have := HPP.out g hg; omega))
    have hsp6 : ∀ g, (Value.slice p5 0 0).ownBlock = some g → (Value.slice a.p 0 0).ownBlock ≠ some g := fun g hg e => by
      have h1 := (OS6.out.lt g (by rw [← hg]; exact own_p _ _ _ _ _)).1
      have h2 := HPP.out g (H4.out.namesP g e)
      omega
    have HA0 : Hid (AddSt W4 W6 P w.heap.size E0 most id d a ts p3 k3 N K 0 a.p p5 none a.c k5 0) := ⟨rfl, rfl, HD6.out.names, fun g hg => .inl (HD6.out.namesP g hg), HBX6.out, HE6.out, (by rw [Nat.add_zero]; simpa [addsM] using OS6.out), World.ownsRow_nil _ _ _ _, fun g hg => (by simp [Value.ownBlock]), hsp6, fun g hg => (by simp [Value.ownBlock] at hg), O6.out⟩
    clear hsp6 HBX6 HE6 OS6 O6
    go_wp2_with fail
    go_loopg [11] N (fun r s11 wr => ∃ (j : Nat) (p' qs qn : Option Addr) (c' cs cn : Nat), r + j = N ∧ s11 = .int .i64 (j : Int) ∧ AddSt W4 wr P w.heap.size E0 most id d a ts p3 k3 N K j p' qs qn c' cs cn)
    case atStart => exact ⟨0, _, _, _, _, _, _, by omega, rfl, HA0.out⟩
    case round =>
      clear HA0
      obtain ⟨j, p', qs, qn, c', cs, cn, hr, rfl, hA⟩ := hrel
      have HR := Lib.hid hr
      have HA := Lib.hid hA
      have hjN : j ≤ N := by omega
      have d0 := Blk.cell hA.bx 0
      have d1 := Blk.cell hA.bx 1
      have d2 := Blk.cell hA.bx 2
      have d3 := Blk.cell hA.bx 3
      simp only [List.getElem?_toArray, List.getElem?_cons_zero, List.getElem?_cons_succ] at d0 d1 d2 d3
      clear hr hA
      by_cases hjl : j < N
      · obtain ⟨t, ht⟩ : ∃ t, ts[j]? = some t := ⟨_, List.getElem?_eq_getElem (by rw [HN.out]; exact hjl)⟩
        have hb4w : Below w.heap.size w W4 := HBW.out.trans (HB4.out.mono HBW.out.size)
        have hbwr : Below w.heap.size w wr := hb4w.trans (HA.out.only.below (fun g hg => by have := HE0.out; have := HBW.out.size; omega) hb4w.size)
        obtain ⟨pr, cr, hvv, -, h0 | ⟨blk, off, hp, hbl, -, hcell⟩⟩ := HV0.out.below hbwr
        · rw [List.length_map, HN.out] at h0
          omega
        have nt := hcell j (.string ⟨t.toArray⟩) (by rw [List.getElem?_map, ht]; rfl)
        injection hvv with q1 q2 q3
        rw [hp] at q1
        subst q1
        have hvt : validB t = true := HTV.out t (List.mem_of_getElem? ht)
        have hwf := adds_wf (ts.take j) d.nm HIW.out.wf hR0 HA.out.ok
        have hll : (addsM most d.nm (ts.take j)).1.length ≤ 99999 := by have := hwf.size; omega
        have htk : (ts.take j).length = j := by rw [List.length_take, HN.out]; omega
        rw [htk] at hwf
        have hADD := radd_any (w := wr.drew) (most := most) HA.out.names hwf hll (by omega) ⟨t.toArray⟩
        have hADDa := radd_any (w := (wr.alloc (.cells #[.int .i64 0, .slice none 0 0] 31)).drew) (most := most) (HA.out.names.alloc _) hwf hll (by omega) ⟨t.toArray⟩
        have hdat : (⟨t.toArray⟩ : ByteArray).data.toList = t := by simp
        rw [hdat] at hADD hADDa
        have hsp := addM_spec hwf hvt
        obtain ⟨lj, hlj⟩ : ∃ lj, (addsM most d.nm (ts.take j)).1 = lj := ⟨_, rfl⟩
        rw [hlj] at d1 hADD hADDa hsp hwf hll
        have HLJ := Lib.hid hlj
        have HTT := Lib.hid ht
        obtain ⟨⟨lz, nz, ez⟩, hzz⟩ : ∃ z, addM most lj t = z := ⟨_, rfl⟩
        rw [hzz] at hADD hADDa hsp
        simp only at hADD hADDa hsp
        have HADD := Lib.hid hADD
        have HADDa := Lib.hid hADDa
        have HZZ := Lib.hid hzz
        have HSP := Lib.hid hsp
        have hla : Below wr.heap.size wr (wr.alloc (.cells #[.int .i64 0, .slice none 0 0] 31)) := (Below.refl _ _).alloc (Nat.le_refl _) _
        have hbx := Blk.below HA.out.bx hla HA.out.bx.lt
        have D0 := Blk.cell hbx 0
        have D1 := Blk.cell hbx 1
        have D0d : (wr.alloc (.cells #[.int .i64 0, .slice none 0 0] 31)).drew.cell? ⟨w.heap.size, 0, none⟩ = _ := Blk.cell hbx 0
        have D1d : (wr.alloc (.cells #[.int .i64 0, .slice none 0 0] 31)).drew.cell? ⟨w.heap.size, 1, none⟩ = _ := Blk.cell hbx 1
        simp only [List.getElem?_toArray, List.getElem?_cons_zero, List.getElem?_cons_succ] at D0 D1 D0d D1d
        rw [HLJ.out] at D1 D1d
        have NT := (hla.cell (p := ⟨blk, off + j, none⟩) hbl).trans nt
        have NTd : (wr.alloc (.cells #[.int .i64 0, .slice none 0 0] 31)).drew.cell? ⟨blk, off + j, none⟩ = _ := NT
        have HTb : Hid (Blk (wr.alloc (.cells #[.int .i64 0, .slice none 0 0] 31)) wr.heap.size 31 #[.int .i64 0, .slice none 0 0]) := Blk.new _ _ _
        have D0e : wr.drew.cell? ⟨w.heap.size, 0, none⟩ = _ := d0
        have D1e : wr.drew.cell? ⟨w.heap.size, 1, none⟩ = _ := d1
        have NTe : wr.drew.cell? ⟨blk, off + j, none⟩ = _ := nt
        clear hcell q2 q3 hp hb4w htk hlj ht hdat hwf hll hADD hADDa hsp hzz hbx hla
        go_upto_region 9 with (fail)
        go_cut [12, 13, 14] from 57 to 67 (fun s12 s13 s14 wx => ∃ (A : Nat) (p2 : Option Addr) (c2 : Nat), s12 = .pointer (some ⟨A, 0, none⟩) ∧ s13 = .int .i64 nz ∧ s14 = .int .i64 ez ∧ Blk wx A 31 #[.int .i64 most, .slice p2 lz.length c2] ∧ wr.heap.size ≤ A ∧ Rf wx 0 p2 c2 lz ∧ (p2 = p' ∨ ∀ g, (Value.slice p2 0 0).ownBlock = some g → wr.heap.size ≤ g) ∧ Only (fun _ => False) wr wx)
        case first =>
          go_region_law (first | (go_simp; go_at_call 40; refine HADD.out.mono ?_; rintro e4 w4 ⟨p2, c2, rfl, rf2, hp2, b4⟩; have hw8 : Below wr.drew.heap.size wr.drew (w4.alloc (.cells #[.int .i64 most, .slice p2 lz.length c2] 31)) := b4.trans (((Below.refl w4.heap.size w4).alloc (Nat.le_refl _) _).mono b4.size); have hm8 : Blk (w4.alloc (.cells #[.int .i64 most, .slice p2 lz.length c2] 31)) w4.heap.size 31 #[.int .i64 most, .slice p2 lz.length c2] ∧ wr.heap.size ≤ w4.heap.size ∧ Rf (w4.alloc (.cells #[.int .i64 most, .slice p2 lz.length c2] 31)) 0 p2 c2 lz ∧ (p2 = p' ∨ ∀ g, (Value.slice p2 0 0).ownBlock = some g → wr.heap.size ≤ g) := ⟨Blk.new _ _ _, b4.size, rf2.alloc _, hp2⟩) | (go_simp; go_at_call 40; refine HADDa.out.mono ?_; rintro e4 w4 ⟨p2, c2, rfl, rf2, hp2, b4⟩; have HTb4 := Lib.hid (Blk.below (w := (wr.alloc (.cells #[.int .i64 0, .slice none 0 0] 31)).drew) HTb.out b4 HTb.out.lt); have u0 := Blk.cell HTb4.out 0; have u1 := Blk.cell HTb4.out 1; have v0 := Blk.frozen HTb4.out 0; have v1 := Blk.frozen HTb4.out 1; simp only [List.getElem?_toArray, List.getElem?_cons_zero, List.getElem?_cons_succ] at u0 u1; have B4 := Lib.hid b4; have RF2 := Lib.hid rf2; have HP2 := Lib.hid hp2))
          all_goals
            go_wp2_with fail
            go_meet
            first
              | exact ⟨w4.heap.size, p2, c2, rfl, rfl, rfl, hm8.1, hm8.2.1, hm8.2.2.1, hm8.2.2.2, ((Only.refl (fun _ => False) wr).drew).trans (Only.of_below hw8 (fun _ => False)) (fun g h => h.elim)⟩
              | (have hws : (wr.alloc (.cells #[.int .i64 0, .slice none 0 0] 31)).drew.heap.size = wr.heap.size + 1 := by simp [World.drew]
                 have hne : (Value.slice p2 lz.length c2).ownBlock ≠ some wr.heap.size := fun e => by
                   rcases HP2.out with rfl | h
                   · have := ownsRow_lt HA.out.names (g := wr.heap.size) (by rw [← e]; exact own_p _ _ _ _ _)
                     omega
                   · have := h wr.heap.size (by rw [← e]; exact own_p _ _ _ _ _)
                     omega
                 refine ⟨wr.heap.size, p2, c2, rfl, rfl, rfl, by simpa using Blk.set_ (Blk.set_ HTb4.out 0 (.int .i64 most)) 1 (.slice p2 lz.length c2), Nat.le_refl _, ?_, ?_, ?_⟩
                 · exact owns_set (k := wr.heap.size) (owns_set (k := wr.heap.size) RF2.out hne 0 _) hne 1 _
                 · exact HP2.out.imp (fun h => h) (fun h g hg => by have := h g hg; omega)
                 · exact (((((Only.refl (fun _ => False) wr).alloc _).drew).trans (Only.of_below B4.out (fun _ => False)) (fun g h => h.elim)).setCell1 (.inr (Nat.le_refl _)) 0 _).setCell1 (.inr (Nat.le_refl _)) 1 _)
        case rest =>
          obtain ⟨A, p2, c2, rfl, rfl, rfl, hAb, hA1, hrf2, hp2, ho8⟩ := hcut
          have hE := HE0.out
          have hws := HBW.out.size
          have hrl := HBR.out.lt
          have hsa := HSa.out
          have O8 := Lib.hid (HA.out.only.trans ho8 (fun g h => h.elim))
          have HAB := Lib.hid hAb
          have HRF2 := Lib.hid hrf2
          have HP2 := Lib.hid hp2
          clear hAb hrf2 hp2 D0 D1 D0d D1d NT NTd D0e D1e NTe nt d0 d1 d2 d3
          rcases HSP.out with he | ⟨l2, n, he, -⟩
          · simp only [Prod.mk.injEq] at he
            obtain ⟨rfl, rfl, rfl⟩ := he
            have HB8 := Lib.hid (Blk.only HB04.out O8.out (by omega))
            have HR8 := Lib.hid (Blk.only HBR4.out O8.out (by omega))
            have d0 := Blk.cell HB8.out 0
            have d1 := Blk.cell HB8.out 1
            have d2 := Blk.cell HB8.out 2
            have d3 := Blk.cell HB8.out 3
            have e0 := Blk.cell HR8.out 0
            have e1 := Blk.cell HR8.out 1
            have e2 := Blk.cell HR8.out 2
            have e3 := Blk.cell HR8.out 3
            have f0 := Blk.frozen HR8.out 0
            have f1 := Blk.frozen HR8.out 1
            have f2 := Blk.frozen HR8.out 2
            have f3 := Blk.frozen HR8.out 3
            simp only [List.getElem?_toArray, List.getElem?_cons_zero, List.getElem?_cons_succ] at d0 d1 d2 d3 e0 e1 e2 e3
            have HEQ : Hid (d.add most id ts = (d, [], 7)) := by
              unfold Hid Dx.add
              rw [if_neg (by rw [not_or]; exact ⟨by have := HLTT.out; omega, by rw [HTB.out]; decide⟩)]
              have h1 := (adds_snoc (ts.take j) d.nm t HA.out.ok).2 (ts.drop (j + 1)) (by rw [HLJ.out, HZZ.out]; exact (by decide : ¬ (7 : Int) = 0))
              have h2 : ts.take j ++ t :: ts.drop (j + 1) = ts := by
                have := List.getElem?_eq_some_iff.1 HTT.out
                rw [← this.2, List.getElem_cons_drop, List.take_append_drop]
              rw [h2, HLJ.out, HZZ.out] at h1
              rw [if_neg (by rw [h1]; exact (by decide : ¬ (7 : Int) = 0)), h1]
            go_upto_region 11 with (fail)
            repeat (first | go_values | go_skip | go_guarded | go_step | go_upon)
            have hz := putX_blk HR8.out most d a
            have z0 := Blk.cell hz 0
            have z1 := Blk.cell hz 1
            have z2 := Blk.cell hz 2
            have z3 := Blk.cell hz 3
            have ho := putX_only (w := wc) (R := w.heap.size + 1) most d a
            have o9 := (O8.out.more (S' := fun g => g = w.heap.size ∨ g = E0 ∨ g = w.heap.size + 1) (fun g h => .inl (by omega))).trans ho (fun g h => .inl (by omega))
            simp only [putX, List.getElem?_toArray, List.getElem?_cons_zero, List.getElem?_cons_succ] at z0 z1 z2 z3 ho o9
            exact bodyPost_ret (v := .tuple #[dixV most d a, .slice none 0 0, .int .i64 7]) (by simp [results, Tryz.results9, go_sem, z0, z1, z2, z3]) rfl (by
              rw [← HRES.out, HEQ.out]
              have hb4w : Below w.heap.size w W4 := HBW.out.trans (HB4.out.mono HBW.out.size)
              exact ⟨a, none, 0, rfl, .inl rfl, (H4.out.only o9 (fun g hg he => by have := HPP.out g hg; omega)).more (fun g hg => .inl hg), hb4w.trans (o9.below (fun g hg => by omega) hb4w.size)⟩)
          · simp only [Prod.mk.injEq] at he
            obtain ⟨rfl, rfl, rfl⟩ := he
            obtain ⟨ns, hns⟩ : ∃ ns, (addsM most d.nm (ts.take j)).2.1 = ns := ⟨_, rfl⟩
            have HTK : Hid (addsM most d.nm (ts.take (j + 1)) = (lz, ns ++ [n], 0)) := by
              unfold Hid
              have h1 := (adds_snoc (ts.take j) d.nm t HA.out.ok).1 (by rw [HLJ.out, HZZ.out])
              rw [HLJ.out, HZZ.out, hns] at h1
              rw [List.take_add_one, HTT.out]
              simpa using h1
            have HNL : Hid (ns.length = j) := by rw [← hns]; exact HA.out.len
            have hX4 : w.heap.size < W4.heap.size := HBX4.out.lt
            have HXE : Hid (w.heap.size ≠ E0 ∧ w.heap.size < W4.heap.size ∧ E0 < W4.heap.size ∧ w.heap.size ≤ E0) := ⟨by omega, hX4, hE4, by omega⟩
            have HSR8 : Hid (wc.ownsRow W4.heap.size 87 2 (.slice qs (K + j) cs) (K + j) (slCs (d.sl ++ ns.map (fun n => (n, id))))) := by rw [← hns]; exact ownsRow_only HA.out.srow ho8 (fun g hg h => h)
            have HNR8 : Hid (wc.ownsRow W4.heap.size 3 1 (.slice qn j cn) j (numsV ns)) := by rw [← hns]; exact ownsRow_only HA.out.nrow ho8 (fun g hg h => h)
            have HBX8 : Hid (Blk wc w.heap.size 35 #[.int .i64 most, .slice p' lj.length c', .slice a.pA d.all.length a.cA, .slice qs (K + j) cs]) := by rw [← HLJ.out]; exact Blk.only HA.out.bx ho8 (fun h => h)
            have HBE8 := Lib.hid (Blk.only HA.out.be ho8 (fun h => h))
            have HQS : Hid (∀ g, (Value.slice qs 0 0).ownBlock = some g → W4.heap.size ≤ g ∧ g < wr.heap.size) := fun g hg => HA.out.srow.lt g (by rw [← hg]; exact own_p _ _ _ _ _)
            have HQN : Hid (∀ g, (Value.slice qn 0 0).ownBlock = some g → W4.heap.size ≤ g ∧ g < wr.heap.size) := fun g hg => HA.out.nrow.lt g (by rw [← hg]; exact own_p _ _ _ _ _)
            have HWZ : Hid (W4.heap.size ≤ wr.heap.size ∧ wr.heap.size ≤ wc.heap.size) := ⟨HA.out.only.size, ho8.size⟩
            have HP5 : Hid (∀ g, (Value.slice p2 0 0).ownBlock = some g → P g ∨ W4.heap.size ≤ g) := fun g hg => by
              rcases HP2.out with rfl | h
              · exact HA.out.namesP g hg
              · have := h g hg; have := HWZ.out.1; exact .inr (by omega)
            have HSP : Hid (∀ g, (Value.slice qs 0 0).ownBlock = some g → (Value.slice p2 0 0).ownBlock ≠ some g) := fun g hg e => by
              rcases HP2.out with rfl | h
              · exact HA.out.sp g hg e
              · have := h g e; have := (HQS.out g hg).2; omega
            have HNP : Hid (∀ g, (Value.slice qn 0 0).ownBlock = some g → (Value.slice p2 0 0).ownBlock ≠ some g) := fun g hg e => by
              rcases HP2.out with rfl | h
              · exact HA.out.np g hg e
              · have := h g e; have := (HQN.out g hg).2; omega
            have HSN : Hid (∀ g, (Value.slice qs 0 0).ownBlock = some g → (Value.slice qn 0 0).ownBlock ≠ some g) := HA.out.sn
            have HPX : Hid (∀ g, (Value.slice p2 0 0).ownBlock = some g → g ≠ w.heap.size ∧ g ≠ E0) := fun g hg => by
              have hx := HXE.out
              rcases HP5.out g hg with h | h
              · have := HPP.out g h; omega
              · omega
            clear hns hE hws hrl hsa hA1 ho8 hX4 hbwr hX2 hR2 hB2 hE4 hE2
            have t0 := Blk.cell HAB.out 0
            have t1 := Blk.cell HAB.out 1
            have x0 := Blk.cell HBX8.out 0
            have x1 := Blk.cell HBX8.out 1
            have g0 := Blk.frozen HBX8.out 0
            have g1 := Blk.frozen HBX8.out 1
            simp only [List.getElem?_toArray, List.getElem?_cons_zero, List.getElem?_cons_succ] at t0 t1 x0 x1
            go_upto_region 13 with (fail)
            have o5 : Only (fun g => g = w.heap.size) wc ((wc.setCell ⟨w.heap.size, 0, none⟩ (.int .i64 most)).setCell ⟨w.heap.size, 1, none⟩ (.slice p2 lz.length c2)) := ((Only.refl (fun g => g = w.heap.size) wc).setCell1 (.inl rfl) 0 _).setCell1 (.inl rfl) 1 _
            have HBX5 : Hid (Blk ((wc.setCell ⟨w.heap.size, 0, none⟩ (.int .i64 most)).setCell ⟨w.heap.size, 1, none⟩ (.slice p2 lz.length c2)) w.heap.size 35 #[.int .i64 most, .slice p2 lz.length c2, .slice a.pA d.all.length a.cA, .slice qs (K + j) cs]) := by
              have := Blk.set_ (Blk.set_ HBX8.out 0 (.int .i64 most)) 1 (.slice p2 lz.length c2)
              unfold Hid
              simpa using this
            have HBE5 := Lib.hid (Blk.only HBE8.out o5 (fun h => HXE.out.1 h.symm))
            have HSR5 := Lib.hid (ownsRow_only HSR8.out o5 (fun g hg h => by have := (HQS.out g (by rw [← hg]; exact own_p _ _ _ _ _)).1; have := HXE.out; omega))
            have HNR5 := Lib.hid (ownsRow_only HNR8.out o5 (fun g hg h => by have := (HQN.out g (by rw [← hg]; exact own_p _ _ _ _ _)).1; have := HXE.out; omega))
            have HRF5 := Lib.hid (ownsRow_only HRF2.out o5 (fun g hg h => (HPX.out g (by rw [← hg]; exact own_p _ _ _ _ _)).1 h))
            have O5w := Lib.hid (O8.out.trans o5 (fun g h => .inl (.inl h)))
            have HWZ5 : Hid (wr.heap.size ≤ ((wc.setCell ⟨w.heap.size, 0, none⟩ (.int .i64 most)).setCell ⟨w.heap.size, 1, none⟩ (.slice p2 lz.length c2)).heap.size) := by have := HWZ.out.2; have := o5.size; unfold Hid; omega
            clear t0 t1 x0 x1 g0 g1 o5
            generalize (wc.setCell ⟨w.heap.size, 0, none⟩ (.int .i64 most)).setCell ⟨w.heap.size, 1, none⟩ (.slice p2 lz.length c2) = V5 at *
            have e2 := Blk.cell HBE5.out 2
            simp only [List.getElem?_toArray, List.getElem?_cons_zero, List.getElem?_cons_succ] at e2
            go_wp2_with (at_builtin; refine wpList_append_own_at _ rfl _ _ 40 rfl W4.heap.size 3 ii (.int .i64 0) 1 8 Tryz.underlying40 hii hy0 hy1 hy2 rfl (by decide) _ _ _ rfl (HNR5.out.alloc _) ⟨V5.heap.size, 0, none⟩ 1 1 [.int .i64 (n : Int)] rfl rfl ?c1 ?c2 ?c3 ?c4 ?c5 ?_)
            case c1 => exact cell_one_new _ _ _
            case c2 => exact one_int _ _
            case c3 => unfold maxLen; omega
            case c4 => omega
            case c5 => have := HWZ5.out; have := HWZ.out; simp; omega
            intro v6 w6 hown6 hg6 _ hvb6
            obtain ⟨qm, cm, rfl⟩ := owns_form hown6
            have ou := only_grown hg6
            have HBX6 := Lib.hid (Blk.only (HBX5.out.alloc _) ou (fun h => by have := (HQN.out _ (by rw [← h]; exact own_p _ _ _ _ _)).1; have := HXE.out; omega))
            have HBE6 := Lib.hid (Blk.only (HBE5.out.alloc _) ou (fun h => by have := (HQN.out _ (by rw [← h]; exact own_p _ _ _ _ _)).1; have := HXE.out; omega))
            have HSR6 := Lib.hid (ownsRow_only (HSR5.out.alloc _) ou (fun g hg h => HSN.out g (by rw [← hg]; exact own_p _ _ _ _ _) (by rw [← h]; exact own_p _ _ _ _ _)))
            have HRF6 := Lib.hid (ownsRow_only (HRF5.out.alloc _) ou (fun g hg h => HNP.out g (by rw [← h]; exact own_p _ _ _ _ _) (by rw [← hg]; exact own_p _ _ _ _ _)))
            have HNR6 := Lib.hid hown6
            have O6 := Lib.hid ((O5w.out.alloc _).trans ou (fun g h => .inr (HQN.out g (by rw [← h]; exact own_p _ _ _ _ _)).1))
            have HQM : Hid (∀ g, (Value.slice qm 0 0).ownBlock = some g → (Value.slice qn 0 0).ownBlock = some g ∨ g = V5.heap.size + 1) := fun g hg => by
              rcases hvb6 with h | h
              · exact .inl (by rw [own_p qn 0 0 j cn, ← h, own_p qm (j + 1) cm 0 0]; exact hg)
              · rw [own_p qm (j + 1) cm 0 0, hg] at h
                injection h with h
                exact .inr (by simpa using h)
            have HLT6 : Hid (∀ g, (Value.slice p2 0 0).ownBlock = some g → g < V5.heap.size) := fun g hg => ownsRow_lt HRF5.out (by rw [← hg]; exact own_p _ _ _ _ _)
            have HST6 : Hid (∀ g, (Value.slice qs 0 0).ownBlock = some g → g < V5.heap.size) := fun g hg => ownsRow_lt HSR5.out (by rw [← hg]; exact own_p _ _ _ _ _)
            have HNP6 : Hid (∀ g, (Value.slice qm 0 0).ownBlock = some g → (Value.slice p2 0 0).ownBlock ≠ some g) := fun g hg e => by
              rcases HQM.out g hg with h | h
              · exact HNP.out g h e
              · have := HLT6.out g e; omega
            have HSN6 : Hid (∀ g, (Value.slice qs 0 0).ownBlock = some g → (Value.slice qm 0 0).ownBlock ≠ some g) := fun g hg e => by
              rcases HQM.out g e with h | h
              · exact HSN.out g hg h
              · have := HST6.out g hg; omega
            have HQM6 : Hid (∀ g, (Value.slice qm 0 0).ownBlock = some g → W4.heap.size ≤ g ∧ g < w6.heap.size) := fun g hg => hown6.lt g (by rw [← hg]; exact own_p _ _ _ _ _)
            have HS6 : Hid (V5.heap.size ≤ w6.heap.size) := by have := ou.size; simp at this; unfold Hid; omega
            clear e2 hown6 hg6 hvb6 ou
            have e2 := Blk.cell HBE6.out 2
            have g2 := Blk.frozen HBE6.out 2
            simp only [List.getElem?_toArray, List.getElem?_cons_zero, List.getElem?_cons_succ] at e2
            go_upto_region 14 with (fail)
            have o7 : Only (fun g => g = E0) w6 (w6.setCell ⟨E0, 2, none⟩ (.slice qm (j + 1) cm)) := (Only.refl (fun g => g = E0) w6).setCell1 (.inl rfl) 2 _
            have HBE7 : Hid (Blk (w6.setCell ⟨E0, 2, none⟩ (.slice qm (j + 1) cm)) E0 75 #[.int .u64 (id : Int), .slice p3 N k3, .slice qm (j + 1) cm, .bool true]) := by
              have := Blk.set_ HBE6.out 2 (.slice qm (j + 1) cm)
              unfold Hid
              simpa using this
            have HBX7 := Lib.hid (Blk.only HBX6.out o7 (fun h => HXE.out.1 h))
            have HSR7 := Lib.hid (ownsRow_only HSR6.out o7 (fun g hg h => by have := (HQS.out g (by rw [← hg]; exact own_p _ _ _ _ _)).1; have := HXE.out; omega))
            have HNR7 := Lib.hid (ownsRow_only HNR6.out o7 (fun g hg h => by have := (HQM6.out g (by rw [← hg]; exact own_p _ _ _ _ _)).1; have := HXE.out; omega))
            have HRF7 := Lib.hid (ownsRow_only HRF6.out o7 (fun g hg h => (HPX.out g (by rw [← hg]; exact own_p _ _ _ _ _)).2 h))
            have O7 := Lib.hid (O6.out.trans o7 (fun g h => .inl (.inr h)))
            have HS7 : Hid (V5.heap.size ≤ (w6.setCell ⟨E0, 2, none⟩ (.slice qm (j + 1) cm)).heap.size) := by have := HS6.out; have := o7.size; unfold Hid; omega
            have HLM7 : Hid (∀ g, (Value.slice qm 0 0).ownBlock = some g → W4.heap.size ≤ g ∧ g < (w6.setCell ⟨E0, 2, none⟩ (.slice qm (j + 1) cm)).heap.size) := fun g hg => ⟨(HQM6.out g hg).1, Nat.lt_of_lt_of_le (HQM6.out g hg).2 o7.size⟩
            clear e2 g2 o7
            generalize w6.setCell ⟨E0, 2, none⟩ (.slice qm (j + 1) cm) = V7 at *
            have d3 := Blk.cell HBX7.out 3
            simp only [List.getElem?_toArray, List.getElem?_cons_zero, List.getElem?_cons_succ] at d3
            go_wp2_with (at_builtin; refine wpList_append_own_at _ rfl _ _ 33 rfl W4.heap.size 87 isl (.agg #[.int .i64 0, .int .u64 0]) 2 16 Tryz.underlying33 hisl hl0 hl1 hl2 rfl (by decide) _ _ _ rfl (HSR7.out.alloc _) ⟨V7.heap.size, 0, none⟩ 1 1 [.int .i64 (n : Int), .int .u64 (id : Int)] rfl rfl ?c1 ?c2 ?c3 ?c4 ?c5 ?_)
            case c1 =>
              intro i u hi
              rw [addr_add0, Blk.cell (Blk.new V7 87 #[.int .i64 (n : Int), .int .u64 (id : Int)]) i]
              simpa using hi
            case c2 => intro u hu; simp at hu; rcases hu with rfl | rfl <;> rfl
            case c3 => unfold maxLen; omega
            case c4 => omega
            case c5 => have := HWZ5.out; have := HWZ.out; have := HS7.out; simp; omega
            intro v8 w8 hown8 hg8 _ hvb8
            obtain ⟨qt, ct, rfl⟩ := owns_form hown8
            have ou := only_grown hg8
            have HBX8' := Lib.hid (Blk.only (HBX7.out.alloc _) ou (fun h => by have := (HQS.out _ (by rw [← h]; exact own_p _ _ _ _ _)).1; have := HXE.out; omega))
            have HBE8' := Lib.hid (Blk.only (HBE7.out.alloc _) ou (fun h => by have := (HQS.out _ (by rw [← h]; exact own_p _ _ _ _ _)).1; have := HXE.out; omega))
            have HNR8' := Lib.hid (ownsRow_only (HNR7.out.alloc _) ou (fun g hg h => HSN6.out g (by rw [← h]; exact own_p _ _ _ _ _) (by rw [← hg]; exact own_p _ _ _ _ _)))
            have HRF8 := Lib.hid (ownsRow_only (HRF7.out.alloc _) ou (fun g hg h => HSP.out g (by rw [← h]; exact own_p _ _ _ _ _) (by rw [← hg]; exact own_p _ _ _ _ _)))
            have HSR8' := Lib.hid hown8
            have O8' := Lib.hid ((O7.out.alloc _).trans ou (fun g h => .inr (HQS.out g (by rw [← h]; exact own_p _ _ _ _ _)).1))
            have HQT : Hid (∀ g, (Value.slice qt 0 0).ownBlock = some g → (Value.slice qs 0 0).ownBlock = some g ∨ g = V7.heap.size + 1) := fun g hg => by
              rcases hvb8 with h | h
              · exact .inl (by rw [own_p qs 0 0 (K + j) cs, ← h, own_p qt (K + j + 1) ct 0 0]; exact hg)
              · rw [own_p qt (K + j + 1) ct 0 0, hg] at h
                injection h with h
                exact .inr (by simpa using h)
            have HSP8 : Hid (∀ g, (Value.slice qt 0 0).ownBlock = some g → (Value.slice p2 0 0).ownBlock ≠ some g) := fun g hg e => by
              rcases HQT.out g hg with h | h
              · exact HSP.out g h e
              · have := HLT6.out g e; have := HS7.out; omega
            have HSN8 : Hid (∀ g, (Value.slice qt 0 0).ownBlock = some g → (Value.slice qm 0 0).ownBlock ≠ some g) := fun g hg e => by
              rcases HQT.out g hg with h | h
              · exact HSN6.out g h e
              · have := (HLM7.out g e).2; omega
            have HQT8 : Hid (∀ g, (Value.slice qt 0 0).ownBlock = some g → W4.heap.size ≤ g) := fun g hg => (hown8.lt g (by rw [← hg]; exact own_p _ _ _ _ _)).1
            clear d3 hown8 hg8 hvb8 ou
            have d3 := Blk.cell HBX8'.out 3
            have g3 := Blk.frozen HBX8'.out 3
            simp only [List.getElem?_toArray, List.getElem?_cons_zero, List.getElem?_cons_succ] at d3
            go_wp2_with fail
            go_roundg (N - (j + 1))
            case measure => have := HR.out; omega
            case rel =>
              have o9 : Only (fun g => g = w.heap.size) w8 (w8.setCell ⟨w.heap.size, 3, none⟩ (.slice qt (K + j + 1) ct)) := (Only.refl (fun g => g = w.heap.size) w8).setCell1 (.inl rfl) 3 _
              refine ⟨j + 1, p2, qt, qm, c2, ct, cm, by omega, by go_num, ?_⟩
              have hx9 := Blk.set_ HBX8'.out 3 (.slice qt (K + j + 1) ct)
              have hs := HTK.out
              refine ⟨by rw [hs], by rw [hs, List.length_append, HNL.out]; rfl, ?_, HP5.out, ?_, Blk.only HBE8'.out o9 (fun h => HXE.out.1 h.symm), ?_, ?_, HSN8.out, HSP8.out, HNP6.out, O8'.out.trans o9 (fun g h => .inl (.inl h))⟩
              · rw [hs]
                exact ownsRow_only HRF8.out o9 (fun g hg h => (HPX.out g (by rw [← hg]; exact own_p _ _ _ _ _)).1 h)
              · rw [hs, ← Nat.add_assoc]
                simpa using hx9
              · rw [hs, ← Nat.add_assoc]
                have h1 := ownsRow_only HSR8'.out o9 (fun g hg h => by have := HQT8.out g (by rw [← hg]; exact own_p _ _ _ _ _); have := HXE.out; omega)
                have h2 : slCs (d.sl ++ (ns ++ [n]).map (fun n => (n, id))) = slCs (d.sl ++ ns.map (fun n => (n, id))) ++ [.int .i64 (n : Int), .int .u64 (id : Int)] := by
                  rw [List.map_append, ← List.append_assoc, sl_app]
                  rfl
                rw [h2]
                exact h1
              · rw [hs]
                have h1 := ownsRow_only HNR8'.out o9 (fun g hg h => by have := (HLM7.out g (by rw [← hg]; exact own_p _ _ _ _ _)).1; have := HXE.out; omega)
                have h2 : numsV (ns ++ [n]) = numsV ns ++ [.int .i64 (n : Int)] := by simp [numsV]
                rw [h2]
                exact h1
      · obtain rfl : j = N := by omega
        have HTKN : Hid (ts.take j = ts) := List.take_of_length_le (by rw [HN.out]; exact Nat.le_refl _)
        obtain ⟨⟨lz, ns, ez⟩, hz⟩ : ∃ z, addsM most d.nm ts = z := ⟨_, rfl⟩
        have hok := HA.out.ok
        have hln := HA.out.len
        have hnm := HA.out.names
        have hbx := HA.out.bx
        have hsr := HA.out.srow
        have hnr := HA.out.nrow
        rw [HTKN.out, hz] at hok hln hnm hbx hsr hnr
        simp only at hok hln hnm hbx hsr hnr
        subst hok
        have HEQ : Hid (d.add most id ts = (⟨lz, d.all ++ [⟨id, ts, ns, true⟩], d.sl ++ ns.map (fun n => (n, id))⟩, ns, 0)) := by
          unfold Hid Dx.add
          rw [if_neg (by rw [not_or]; exact ⟨by have := HLTT.out; omega, by rw [HTB.out]; decide⟩), hz, if_pos rfl]
        obtain ⟨Mv, hMv⟩ : ∃ Mv, d.all.length = Mv := ⟨_, rfl⟩
        have HMV := Lib.hid hMv
        have hMl : Mv ≤ 100000 := by rw [← hMv, HM.out]; exact hl
        have hX4 : w.heap.size < W4.heap.size := HBX4.out.lt
        have HXE : Hid (w.heap.size ≠ E0 ∧ w.heap.size < W4.heap.size ∧ E0 < W4.heap.size ∧ w.heap.size < E0) := ⟨by omega, hX4, hE4, by omega⟩
        have HRr : Hid (Dix wr P d a) := H4.out.only HA.out.only (fun g hg he => by have := HPP.out g hg; have := HXE.out; omega)
        have HEL : Hid ((ensCs d.all a.C).length = Mv * 4) := by have := ens_len H4.out.len; rw [HMV.out] at this; exact this
        have HLIES : Hid (∀ w', Below wr.heap.size wr w' → Lies w' 4 (.slice a.pA Mv a.cA) Mv (ensCs d.all a.C)) := fun w' hb => by
          have h := HRr.out.all.below hb
          rw [HMV.out] at h
          exact h.liesW HEL.out
        have HBEr := Lib.hid HA.out.be
        have HOr := Lib.hid HA.out.only
        have HNPr := Lib.hid HA.out.namesP
        have HSNr := Lib.hid HA.out.sn
        rw [hMv] at hbx
        have HBXr := Lib.hid hbx
        have HNMr := Lib.hid hnm
        have HSRr := Lib.hid hsr
        have HNRr := Lib.hid hnr
        have HLNr := Lib.hid hln
        have HMl := Lib.hid hMl
        clear hbx hnm hsr hnr hln hMv hz hX4 d0 d1 d2 d3 hX2 hR2 hB2 hE4 hE2 hl
        -- the two orders
        have dwr : Below wr.heap.size wr wr.drew := (Below.refl _ _).drew
        obtain ⟨v6, w6, hA1, o6, g6, hv6⟩ := run_append_lying (P := Tryz.prog) wr.drew wr.heap.size 32 32 75 ien (.agg #[.int .u64 0, .slice none 0 0, .slice none 0 0, .bool false]) 4 64 Tryz.underlying32 hien hn0 hn1 hn2 rfl (by decide) (.slice none 0 0) 0 [] (World.ownsRow_nil _ _ _ _) (.slice a.pA Mv a.cA) Mv (ensCs d.all a.C) (HLIES.out _ dwr) (ens_one _ _) (by unfold maxLen; omega) (by omega) (Nat.le_refl _)
        rw [Nat.zero_add, List.nil_append] at o6
        obtain ⟨p6, k6, rfl⟩ := owns_form o6
        have b6 : Below wr.heap.size wr.drew w6 := (Below.refl _ _).grown g6 (Nat.le_refl _) (fun j hj => by cases hj)
        have b6r : Below wr.heap.size wr w6 := dwr.trans (b6.mono dwr.size)
        have a6 : Below w6.heap.size w6 (w6.alloc (.cells #[.int .u64 (id : Int), .slice p3 j k3, .slice qn j cn, .bool true] 75)) := (Below.refl _ _).alloc (Nat.le_refl _) _
        obtain ⟨v7, w7, hA2, o7, g7, -, hv7⟩ := run_append_own_at (P := Tryz.prog) (w := w6.alloc (.cells #[.int .u64 (id : Int), .slice p3 j k3, .slice qn j cn, .bool true] 75)) wr.heap.size 32 32 75 ien (.agg #[.int .u64 0, .slice none 0 0, .slice none 0 0, .bool false]) 4 64 Tryz.underlying32 hien hn0 hn1 hn2 rfl (by decide) (.slice p6 Mv k6) Mv (ensCs d.all a.C) (o6.alloc _) ⟨w6.heap.size, 0, none⟩ 1 1 [.int .u64 (id : Int), .slice p3 j k3, .slice qn j cn, .bool true] rfl (fun i u hi => by rw [addr_add0]; exact (Blk.cell (Blk.new w6 75 #[.int .u64 (id : Int), .slice p3 j k3, .slice qn j cn, .bool true]) i).trans (by simpa using hi)) (fun u hu => by simp at hu; rcases hu with rfl | rfl | rfl | rfl <;> rfl) (by unfold maxLen; omega) (by omega) (Nat.le_trans b6r.size a6.size)
        obtain ⟨p7, k7, rfl⟩ := owns_form o7
        have b7 : Below wr.heap.size wr w7 := by
          have h1 := b6r.trans (a6.mono b6r.size)
          exact h1.trans ((only_grown g7).below (fun g hg => (o6.lt g hg).1) h1.size)
        -- the other
        have awr : Below wr.heap.size wr (wr.alloc (.cells #[.int .u64 (id : Int), .slice p3 j k3, .slice qn j cn, .bool true] 75)).drew := ((Below.refl _ _).alloc (Nat.le_refl _) _).drew
        have hnb : Blk (wr.alloc (.cells #[.int .u64 (id : Int), .slice p3 j k3, .slice qn j cn, .bool true] 75)).drew wr.heap.size 75 #[.int .u64 (id : Int), .slice p3 j k3, .slice qn j cn, .bool true] := Blk.new _ _ _
        obtain ⟨v8, w8, hB1, o8, g8, hv8⟩ := run_append_lying (P := Tryz.prog) (wr.alloc (.cells #[.int .u64 (id : Int), .slice p3 j k3, .slice qn j cn, .bool true] 75)).drew wr.heap.size 32 32 75 ien (.agg #[.int .u64 0, .slice none 0 0, .slice none 0 0, .bool false]) 4 64 Tryz.underlying32 hien hn0 hn1 hn2 rfl (by decide) (.slice none 0 0) 0 [] (World.ownsRow_nil _ _ _ _) (.slice a.pA Mv a.cA) Mv (ensCs d.all a.C) (HLIES.out _ awr) (ens_one _ _) (by unfold maxLen; omega) (by omega) awr.size
        rw [Nat.zero_add, List.nil_append] at o8
        obtain ⟨p8, k8, rfl⟩ := owns_form o8
        have b8 : Below (wr.alloc (.cells #[.int .u64 (id : Int), .slice p3 j k3, .slice qn j cn, .bool true] 75)).drew.heap.size (wr.alloc (.cells #[.int .u64 (id : Int), .slice p3 j k3, .slice qn j cn, .bool true] 75)).drew w8 := (Below.refl _ _).grown g8 (Nat.le_refl _) (fun j hj => by cases hj)
        have b8r : Below wr.heap.size wr w8 := awr.trans (b8.mono awr.size)
        have hnb8 := Blk.below hnb b8 hnb.lt
        obtain ⟨v9, w9', hB2, o9, g9, -, hv9⟩ := run_append_own_at (P := Tryz.prog) (w := w8) wr.heap.size 32 32 75 ien (.agg #[.int .u64 0, .slice none 0 0, .slice none 0 0, .bool false]) 4 64 Tryz.underlying32 hien hn0 hn1 hn2 rfl (by decide) (.slice p8 Mv k8) Mv (ensCs d.all a.C) o8 ⟨wr.heap.size, 0, none⟩ 1 1 [.int .u64 (id : Int), .slice p3 j k3, .slice qn j cn, .bool true] rfl (fun i u hi => by rw [addr_add0]; exact (Blk.cell hnb8 i).trans (by simpa using hi)) (fun u hu => by simp at hu; rcases hu with rfl | rfl | rfl | rfl <;> rfl) (by unfold maxLen; omega) (by omega) b8r.size
        obtain ⟨p9, k9, rfl⟩ := owns_form o9
        have b9 : Below wr.heap.size wr w9' := b8r.trans ((only_grown g9).below (fun g hg => (o8.lt g hg).1) b8r.size)
        rw [appS_eq] at hA1 hA2 hB1 hB2
        have hbx7 := Blk.below HBXr.out b7 HBXr.out.lt
        have hbx9 := Blk.below HBXr.out b9 HBXr.out.lt
        have hbe6 := Blk.below HBEr.out b6r HBEr.out.lt
        have e0 := Blk.cell hbe6 0
        have e1 := Blk.cell hbe6 1
        have e2 := Blk.cell hbe6 2
        have e3 := Blk.cell hbe6 3
        have E0d : wr.drew.cell? ⟨E0, 0, none⟩ = _ := Blk.cell HBEr.out 0
        have E1d : wr.drew.cell? ⟨E0, 1, none⟩ = _ := Blk.cell HBEr.out 1
        have E2d : wr.drew.cell? ⟨E0, 2, none⟩ = _ := Blk.cell HBEr.out 2
        have E3d : wr.drew.cell? ⟨E0, 3, none⟩ = _ := Blk.cell HBEr.out 3
        have r0 := Blk.cell HBEr.out 0
        have r1 := Blk.cell HBEr.out 1
        have r2 := Blk.cell HBEr.out 2
        have r3 := Blk.cell HBEr.out 3
        have d2 := Blk.cell HBXr.out 2
        have D2 : wr.drew.cell? ⟨w.heap.size, 2, none⟩ = _ := Blk.cell HBXr.out 2
        have A2 := (awr.cell (p := ⟨w.heap.size, 2, none⟩) HBXr.out.lt).trans (Blk.cell HBXr.out 2)
        have d7 := Blk.cell hbx7 2
        have f7 := Blk.frozen hbx7 2
        have d9 := Blk.cell hbx9 2
        have f9 := Blk.frozen hbx9 2
        simp only [List.getElem?_toArray, List.getElem?_cons_zero, List.getElem?_cons_succ] at d2 D2 A2 d7 d9 e0 e1 e2 e3 E0d E1d E2d E3d r0 r1 r2 r3
        have O7 := Lib.hid o7
        have B7 := Lib.hid b7
        have O9 := Lib.hid o9
        have B9 := Lib.hid b9
        clear o6 g6 hv6 o7 g7 hv7 b6 dwr b6r a6 b7 hbx7 hbe6 hien hn0 hn1 hn2 o8 g8 hv8 o9 g9 hv9 b8 awr b8r b9 hbx9 hnb hnb8
        have HXL7 := Lib.hid (Blk.below HBXr.out B7.out HBXr.out.lt)
        have HXL9 := Lib.hid (Blk.below HBXr.out B9.out HBXr.out.lt)
        go_upto_region 15 with (fail)
        go_cut [] from 88 to 94 (fun wx => ∃ (pz : Option Addr) (kz : Nat), wx.ownsRow wr.heap.size 75 4 (.slice pz (Mv + 1) kz) (Mv + 1) (ensCs d.all a.C ++ [.int .u64 (id : Int), .slice p3 j k3, .slice qn j cn, .bool true]) ∧ Blk wx w.heap.size 35 #[.int .i64 most, .slice p' lz.length c', .slice pz (Mv + 1) kz, .slice qs (K + j) cs] ∧ Only (fun g => g = w.heap.size) wr wx)
        case first =>
          go_region
          · go_wp2_with fail
            go_meet
            have hb := Blk.set_ HXL7.out 2 (.slice p7 (Mv + 1) k7)
            have ho := (Only.of_below B7.out (fun g => g = w.heap.size)).setCell1 (.inl rfl) 2 (.slice p7 (Mv + 1) k7)
            exact ⟨p7, k7, owns_set (k := w.heap.size) O7.out (fun e => by have := (O7.out.lt _ e).1; have := HXL7.out.lt; have := HBXr.out.lt; omega) 2 _, by simpa using hb, ho⟩
          · go_wp2_with fail
            go_meet
            have hb := Blk.set_ HXL9.out 2 (.slice p9 (Mv + 1) k9)
            have ho := (Only.of_below B9.out (fun g => g = w.heap.size)).setCell1 (.inl rfl) 2 (.slice p9 (Mv + 1) k9)
            exact ⟨p9, k9, owns_set (k := w.heap.size) O9.out (fun e => by have := (O9.out.lt _ e).1; have := HBXr.out.lt; omega) 2 _, by simpa using hb, ho⟩
        case rest =>
          clear hA1 hA2 hB1 hB2 O7 O9 B7 B9 HXL7 HXL9 e0 e1 e2 e3 E0d E1d E2d E3d r0 r1 r2 r3 d2 D2 A2 d7 f7 d9 f9
          obtain ⟨pz, kz, hpz, hbz, hoz⟩ := hcut
          have HPZ := Lib.hid hpz
          have HBZ := Lib.hid hbz
          have HOZ := Lib.hid hoz
          have HEZ := Lib.hid (Blk.only HBEr.out hoz (fun h => HXE.out.1 h.symm))
          have hrr : Blk wr (w.heap.size + 1) 35 zeroX := Blk.only HBR4.out HOr.out (by have := HXE.out; have := HE0.out; have := HBR.out.lt; omega)
          have HRZ := Lib.hid (Blk.only hrr hoz (by omega))
          have d0 := Blk.cell HBZ.out 0
          have d1 := Blk.cell HBZ.out 1
          have d2 := Blk.cell HBZ.out 2
          have d3 := Blk.cell HBZ.out 3
          have n2 := Blk.cell HEZ.out 2
          have N2 : wc.drew.cell? ⟨E0, 2, none⟩ = _ := Blk.cell HEZ.out 2
          have D0 : wc.drew.cell? ⟨w.heap.size, 0, none⟩ = _ := Blk.cell HBZ.out 0
          have D1 : wc.drew.cell? ⟨w.heap.size, 1, none⟩ = _ := Blk.cell HBZ.out 1
          have D2 : wc.drew.cell? ⟨w.heap.size, 2, none⟩ = _ := Blk.cell HBZ.out 2
          have D3 : wc.drew.cell? ⟨w.heap.size, 3, none⟩ = _ := Blk.cell HBZ.out 3
          have e0 : wc.drew.cell? ⟨w.heap.size + 1, 0, none⟩ = _ := Blk.cell HRZ.out 0
          have e1 : wc.drew.cell? ⟨w.heap.size + 1, 1, none⟩ = _ := Blk.cell HRZ.out 1
          have e2 : wc.drew.cell? ⟨w.heap.size + 1, 2, none⟩ = _ := Blk.cell HRZ.out 2
          have e3 : wc.drew.cell? ⟨w.heap.size + 1, 3, none⟩ = _ := Blk.cell HRZ.out 3
          have f0 : wc.drew.frozen? ⟨w.heap.size + 1, 0, none⟩ = false := Blk.frozen HRZ.out 0
          have f1 : wc.drew.frozen? ⟨w.heap.size + 1, 1, none⟩ = false := Blk.frozen HRZ.out 1
          have f2 : wc.drew.frozen? ⟨w.heap.size + 1, 2, none⟩ = false := Blk.frozen HRZ.out 2
          have f3 : wc.drew.frozen? ⟨w.heap.size + 1, 3, none⟩ = false := Blk.frozen HRZ.out 3
          have q0 := Blk.cell HRZ.out 0
          have h0 := Blk.frozen HRZ.out 0
          have q1 := Blk.cell HRZ.out 1
          have h1 := Blk.frozen HRZ.out 1
          have q2 := Blk.cell HRZ.out 2
          have h2 := Blk.frozen HRZ.out 2
          have q3 := Blk.cell HRZ.out 3
          have h3 := Blk.frozen HRZ.out 3
          simp only [List.getElem?_toArray, List.getElem?_cons_zero, List.getElem?_cons_succ] at q0 q1 q2 q3 d0 d1 d2 d3 n2 N2 D0 D1 D2 D3 e0 e1 e2 e3
          have hne1 : ¬ E0 = w.heap.size + 1 := by have := HE0.out; have := HBR.out.lt; omega
          have hne2 : ¬ w.heap.size + 1 = E0 := fun e => hne1 e.symm
          clear hpz hbz hoz hrr
          go_upto_region 16 with (fail)
          go_region
          all_goals repeat (first | go_values | go_skip | go_guarded | go_step | go_upon)
          have hN1 : (d.all ++ [(⟨id, ts, ns, true⟩ : En)]).length = Mv + 1 := by rw [List.length_append, HMV.out]; rfl
          have hN2 : (d.sl ++ ns.map (fun n => (n, id))).length = K + j := by rw [List.length_append, HK.out, List.length_map, HLNr.out]
          have hN3 : ns.length = j := HLNr.out
          have hz := putX_blk HRZ.out most ⟨lz, d.all ++ [⟨id, ts, ns, true⟩], d.sl ++ ns.map (fun n => (n, id))⟩ ⟨p', c', pz, kz, qs, cs, a.C ++ [⟨p3, k3, qn, cn⟩]⟩
          have z0 := Blk.cell hz 0
          have z1 := Blk.cell hz 1
          have z2 := Blk.cell hz 2
          have z3 := Blk.cell hz 3
          have ho := putX_only (w := wc) (R := w.heap.size + 1) most ⟨lz, d.all ++ [⟨id, ts, ns, true⟩], d.sl ++ ns.map (fun n => (n, id))⟩ ⟨p', c', pz, kz, qs, cs, a.C ++ [⟨p3, k3, qn, cn⟩]⟩
          simp only [putX, List.getElem?_toArray, List.getElem?_cons_zero, List.getElem?_cons_succ] at z0 z1 z2 z3 ho
          rw [hN1, hN2] at z0 z1 z2 z3 ho
          exact bodyPost_ret (v := .tuple #[dixV most ⟨lz, d.all ++ [⟨id, ts, ns, true⟩], d.sl ++ ns.map (fun n => (n, id))⟩ ⟨p', c', pz, kz, qs, cs, a.C ++ [⟨p3, k3, qn, cn⟩]⟩, .slice qn j cn, .int .i64 0]) (by simp [results, Tryz.results9, go_sem, z0, z1, z2, z3, hN1, hN2]) rfl (by
            rw [← HRES.out, HEQ.out]
            have ow := ho.drew
            generalize ((((wc.setCell ⟨w.heap.size + 1, 0, none⟩ (.int .i64 most)).setCell ⟨w.heap.size + 1, 1, none⟩ (.slice p' lz.length c')).setCell ⟨w.heap.size + 1, 2, none⟩ (.slice pz (Mv + 1) kz)).setCell ⟨w.heap.size + 1, 3, none⟩ (.slice qs (K + j) cs)).drew = we at ow ⊢
            have owr : Only (fun g => g = w.heap.size ∨ g = w.heap.size + 1) wr we := (HOZ.out.more (S' := fun g => g = w.heap.size ∨ g = w.heap.size + 1) (fun g h => .inl (.inl h))).trans ow (fun g h => .inl (.inr h))
            have oW4 : Only (fun g => g = w.heap.size ∨ g = E0 ∨ g = w.heap.size + 1) W4 we := (HOr.out.more (S' := fun g => g = w.heap.size ∨ g = E0 ∨ g = w.heap.size + 1) (fun g h => .inl (by omega))).trans owr (fun g h => .inl (by omega))
            have hb4w : Below w.heap.size w W4 := HBW.out.trans (HB4.out.mono HBW.out.size)
            have hxe := HXE.out
            have hr4 := HBR4.out.lt
            have hx2 := HBXa.out.lt
            have hr2 := HBRa.out.lt
            have s1 := hb4w.size
            have s2 := HOr.out.size
            have s3 := owr.size
            have s4 := HOZ.out.size
            have hnp : ∀ g, (Value.slice p' 0 0).ownBlock = some g → g ≠ w.heap.size ∧ g ≠ w.heap.size + 1 := fun g hg => by
              rcases HNPr.out g hg with h | h
              · have := HPP.out g h; omega
              · omega
            have hnm := ownsRow_only HNMr.out owr (fun g hg he => by have := hnp g (by rw [← hg]; exact own_p _ _ _ _ _); omega)
            have hsr := ownsRow_only HSRr.out owr (fun g hg he => by have := (HSRr.out.lt g hg).1; omega)
            have hnr := ownsRow_only HNRr.out owr (fun g hg he => by have := (HNRr.out.lt g hg).1; omega)
            have hpz := ownsRow_only HPZ.out ow (fun g hg he => by have := (HPZ.out.lt g hg).1; omega)
            have ht3 := ownsRow_only O3.out oW4 (fun g hg he => by have := HP3.out g (by rw [← hg]; exact own_p _ _ _ _ _); omega)
            have hnum : RowS we (Nw w we P) qn j cn (numsV ns) := RowS.of_own hnr (by decide) (fun g hg => .inr ⟨by have := (hnr.lt g hg).1; omega, (hnr.lt g hg).2⟩)
            have hDr := HRr.out.only owr (fun g hg he => by have := HPP.out g hg; omega)
            refine ⟨⟨p', c', pz, kz, qs, cs, a.C ++ [⟨p3, k3, qn, cn⟩]⟩, qn, cn, ?_, ?_, ⟨hnm, fun g hg => ?_, ?_, ?_, ?_, ?_⟩, hb4w.trans (oW4.below (fun g hg => by omega) s1)⟩
            · rw [hN3]
            · rw [hN3]; exact hnum
            · rcases HNPr.out g hg with h | h
              · exact .inl h
              · exact .inr ⟨by omega, ownsRow_lt hnm (by rw [← hg]; exact own_p _ _ _ _ _)⟩
            · show RowS we _ pz (d.all ++ [(⟨id, ts, ns, true⟩ : En)]).length kz (ensCs (d.all ++ [⟨id, ts, ns, true⟩]) (a.C ++ [⟨p3, k3, qn, cn⟩]))
              rw [hN1, ens_app _ _ H4.out.len]
              have he : ensCs [(⟨id, ts, ns, true⟩ : En)] [⟨p3, k3, qn, cn⟩] = [.int .u64 (id : Int), .slice p3 j k3, .slice qn j cn, .bool true] := by
                simp [ensCs, hN3, HN.out]
              rw [he]
              exact RowS.of_own hpz (by decide) (fun g hg => .inr ⟨by have := (hpz.lt g hg).1; omega, (hpz.lt g hg).2⟩)
            · show RowS we _ qs (d.sl ++ ns.map (fun n => (n, id))).length cs (slCs (d.sl ++ ns.map (fun n => (n, id))))
              rw [hN2]
              exact RowS.of_own hsr (by decide) (fun g hg => .inr ⟨by have := (hsr.lt g hg).1; omega, (hsr.lt g hg).2⟩)
            · show (a.C ++ [_]).length = (d.all ++ [_]).length
              rw [List.length_append, List.length_append, H4.out.len]
              rfl
            · intro i e c h1 h2
              by_cases hi : i < d.all.length
              · have h1' : d.all[i]? = some e := by rw [← h1]; exact (List.getElem?_append_left hi).symm
                have h2' : a.C[i]? = some c := by rw [← h2]; exact (List.getElem?_append_left (by rw [H4.out.len]; exact hi)).symm
                obtain ⟨u1, u2⟩ := hDr.sub i e c h1' h2'
                exact ⟨u1.more (fun g hg => .inl hg), u2.more (fun g hg => .inl hg)⟩
              · have hl := (List.getElem?_eq_some_iff.1 h1).1
                simp only [List.length_append, List.length_singleton] at hl
                obtain rfl : i = d.all.length := by omega
                have h1' : e = ⟨id, ts, ns, true⟩ := by simpa using h1.symm
                have h2' : c = ⟨p3, k3, qn, cn⟩ := by
                  have := h2
                  rw [← H4.out.len] at this
                  simpa using this.symm
                subst h1' h2'
                refine ⟨?_, ?_⟩
                · show RowS we _ p3 ts.length k3 (ts.map encStr)
                  rw [HN.out]
                  exact RowS.of_own ht3 (by decide) (fun g hg => .inr ⟨by have := (ht3.lt g hg).1; omega, (ht3.lt g hg).2⟩)
                · show RowS we _ qn ns.length cn (numsV ns)
                  rw [hN3]
                  exact hnum)
  · obtain ⟨m, rfl⟩ : ∃ m, M = m + 1 := ⟨M - 1, by omega⟩
    obtain ⟨en, hen⟩ : ∃ en, d.all[m]? = some en := ⟨_, List.getElem?_eq_getElem (by rw [HM.out]; omega)⟩
    obtain ⟨c, hc⟩ := H.out.ec hen
    obtain ⟨gA, hp, hg, -, -, hcell⟩ := H.out.all.at_ (by rw [HM.out]; omega)
    have n0 := hcell (m * 4 + 0) _ ((ens_get hen hc 0 (by decide)).trans rfl)
    rw [lastE_at HM.out hen] at hlt
    rw [hp] at d2
    simp only [Nat.add_zero] at n0
    have hm1 : ((m + 1 : Nat) : Int) - 1 = (m : Int) := by omega
    have hm2 : (0 : Int) < ((m + 1 : Nat) : Int) := by omega
    have hm3 : (0 : Int) < (m : Int) + 1 := by omega
    obtain ⟨ei, hei⟩ : ∃ ei, en.id = ei := ⟨_, rfl⟩
    rw [hei] at n0 hlt
    have hge' : ¬ (ei : Int) ≥ (id : Int) := by omega
    have HPA := Lib.hid hp
    clear hcell hc hen hei hp hg
    go_upto_region 4 with (go_at_call 39; refine HT.out.mono ?_; rintro e9 w9 ⟨rfl, b9⟩; have HBX9 := Lib.hid (Blk.below HBX.out b9 (Blk.lt HBX.out)); have d0 := Blk.cell HBX9.out 0; have d1 := Blk.cell HBX9.out 1; have d2 := Blk.cell HBX9.out 2; have d3 := Blk.cell HBX9.out 3; simp only [List.getElem?_toArray, List.getElem?_cons_zero, List.getElem?_cons_succ] at d0 d1 d2 d3; rw [HM.out, HPA.out] at d2; rw [HK.out] at d3)
    clear d0 d1 d2 d3
    have HB9 := Lib.hid b9
    have HBR9 := Lib.hid (Blk.below HBR.out b9 (Blk.lt HBR.out))
    have H9 := Lib.hid (H.out.below b9)
    have hal9 : Below w9.heap.size w9 (w9.alloc (.cells #[.int .i64 most, .slice a.p d.nm.length a.c, .slice (some ⟨gA, 0, none⟩) (m + 1) a.cA, .slice a.pS K a.cS] 35)) := (Below.refl _ _).alloc (Nat.le_refl _) _
    have hv9 : Reads (w9.alloc (.cells #[.int .i64 most, .slice a.p d.nm.length a.c, .slice (some ⟨gA, 0, none⟩) (m + 1) a.cA, .slice a.pS K a.cS] 35)) (.slice pv N cv) (ts.map encStr) := (HV.out.below b9).below hal9
    have HBXa := Lib.hid (HBX9.out.below hal9 HBX9.out.lt)
    have HBRa := Lib.hid (HBR9.out.below hal9 HBR9.out.lt)
    have Ha := Lib.hid (H9.out.below hal9)
    have HB0 : Hid (Blk (w9.alloc (.cells #[.int .i64 most, .slice a.p d.nm.length a.c, .slice (some ⟨gA, 0, none⟩) (m + 1) a.cA, .slice a.pS K a.cS] 35)) w9.heap.size 35 (dixCs most d a)) := by
      unfold Hid dixCs
      rw [HM.out, HK.out, HPA.out]
      exact Blk.new _ _ _
    have HBa := Lib.hid (HB9.out.trans (hal9.mono HB9.out.size))
    have HSa : Hid (W.heap.size ≤ w9.heap.size) := HB9.out.size
    have HVa := Lib.hid hv9
    clear b9 hal9 hv9 HBX9 HBR9 H9 HB9
    obtain ⟨B0, hB0⟩ : ∃ B0, w9.heap.size = B0 := ⟨_, rfl⟩
    rw [hB0] at HB0 HSa
    simp only [hB0]
    clear hB0
    generalize w9.alloc (.cells #[.int .i64 most, .slice a.p d.nm.length a.c, .slice (some ⟨gA, 0, none⟩) (m + 1) a.cA, .slice a.pS K a.cS] 35) = W2 at *
    go_wp2_with (at_builtin; refine wpList_append_reads _ rfl _ _ 36 rfl W2.heap.size 9 istr (.string ⟨#[]⟩) 16 Tryz.underlying36 histr hs0 hs1 hs2 rfl _ _ _ rfl (World.ownsRow_nil _ _ _ _) _ (ts.map encStr) rfl HVa.out (one_strings _) (by rw [List.length_map, HN.out]; unfold maxLen; omega) (by rw [List.length_map, HN.out]; omega) (Nat.le_refl _) ?_)
    intro v3 w3 o3 g3 _
    rw [HN.out] at o3
    obtain ⟨p3, k3, rfl⟩ := owns_form o3
    have g3' : W2.grownBy w3 none := g3
    have b3 : Below W2.heap.size W2 w3 := (Below.refl _ _).grown g3' (Nat.le_refl _) (fun j hj => by cases hj)
    have hal3 : Below w3.heap.size w3 (w3.alloc (.cells #[.int .u64 (id : Int), .slice p3 N k3, .slice none 0 0, .bool true] 75)) := (Below.refl _ _).alloc (Nat.le_refl _) _
    have b4 : Below W2.heap.size W2 (w3.alloc (.cells #[.int .u64 (id : Int), .slice p3 N k3, .slice none 0 0, .bool true] 75)) := b3.trans (hal3.mono b3.size)
    have HBX4 := Lib.hid (HBXa.out.below b4 HBXa.out.lt)
    have HBR4 := Lib.hid (HBRa.out.below b4 HBRa.out.lt)
    have HB04 := Lib.hid (HB0.out.below b4 HB0.out.lt)
    have H4 := Lib.hid (Ha.out.below b4)
    have HB4 := Lib.hid (HBa.out.trans (b4.mono HBa.out.size))
    have O3 := Lib.hid (o3.alloc (.cells #[.int .u64 (id : Int), .slice p3 N k3, .slice none 0 0, .bool true] 75))
    have HE4 : Hid (Blk (w3.alloc (.cells #[.int .u64 (id : Int), .slice p3 N k3, .slice none 0 0, .bool true] 75)) w3.heap.size 75 #[.int .u64 (id : Int), .slice p3 N k3, .slice none 0 0, .bool true]) := Blk.new _ _ _
    have HE0 : Hid (W2.heap.size ≤ w3.heap.size ∧ W.heap.size ≤ W2.heap.size) := ⟨b3.size, HBa.out.size⟩
    go_upto_region 5 with (fail)
    have HP3 : Hid (∀ g, (Value.slice p3 0 0).ownBlock = some g → W2.heap.size ≤ g ∧ g < w3.heap.size) := fun g hg => o3.lt g (by rw [← hg]; exact own_p _ _ _ _ _)
    obtain ⟨E0, hE0⟩ : ∃ E0, w3.heap.size = E0 := ⟨_, rfl⟩
    rw [hE0] at HE4 HE0 HP3
    simp only [hE0]
    clear hE0 hal3 b4 b3 g3 g3' o3
    generalize w3.alloc (.cells #[.int .u64 (id : Int), .slice p3 N k3, .slice none 0 0, .bool true] 75) = W4 at *
    have d3 := Blk.cell HBX4.out 3
    simp only [List.getElem?_toArray, List.getElem?_cons_zero, List.getElem?_cons_succ] at d3
    rw [HK.out] at d3
    have HLS : Hid (Lies W4 2 (.slice a.pS K a.cS) K (slCs d.sl)) := by
      have h := H4.out.slots.lies0
      rw [HK.out] at h
      exact h
    go_wp2_with (at_builtin; refine wpList_append_lying _ rfl _ _ 33 rfl W4.heap.size 87 isl (.agg #[.int .i64 0, .int .u64 0]) 2 16 Tryz.underlying33 hisl hl0 hl1 hl2 rfl (by decide) _ _ _ rfl (World.ownsRow_nil _ _ _ _) _ K (slCs d.sl) rfl HLS.out (sl_one _) (by unfold maxLen; omega) (by omega) (Nat.le_refl _) ?_)
    intro v5 w5 o5 g5 _
    obtain ⟨p5, k5, rfl⟩ := owns_form o5
    have g5' : W4.grownBy w5 none := g5
    have b5 : Below W4.heap.size W4 w5 := (Below.refl _ _).grown g5' (Nat.le_refl _) (fun j hj => by cases hj)
    have hX2 : w.heap.size < W2.heap.size := HBXa.out.lt
    have hR2 : w.heap.size + 1 < W2.heap.size := HBRa.out.lt
    have hB2 : B0 < W2.heap.size := HB0.out.lt
    have hE4 : E0 < W4.heap.size := HE4.out.lt
    have hE2 := HE0.out.1
    have hx5 := Blk.below HBX4.out b5 (by omega)
    have d3 := Blk.cell hx5 3
    have x3 := Blk.frozen hx5 3
    simp only [List.getElem?_toArray, List.getElem?_cons_zero, List.getElem?_cons_succ] at d3
    rw [HK.out] at d3
    have O5 := Lib.hid o5
    go_upto_region 6 with (fail)
    have O6 : Hid (Only (fun g => g = w.heap.size ∨ g = E0) W4 (w5.setCell ⟨w.heap.size, 3, none⟩ (.slice p5 K k5))) := (Only.of_below b5 (fun g => g = w.heap.size ∨ g = E0)).setCell1 (.inl (.inl rfl)) 3 _
    have HBX6 : Hid (Blk (w5.setCell ⟨w.heap.size, 3, none⟩ (.slice p5 K k5)) w.heap.size 35 #[.int .i64 most, .slice a.p d.nm.length a.c, .slice a.pA d.all.length a.cA, .slice p5 K k5]) := by
      have := Blk.set_ hx5 3 (.slice p5 K k5)
      unfold Hid
      simpa using this
    have HE6 : Hid (Blk (w5.setCell ⟨w.heap.size, 3, none⟩ (.slice p5 K k5)) E0 75 #[.int .u64 (id : Int), .slice p3 N k3, .slice none 0 0, .bool true]) := Blk.far (p := ⟨w.heap.size, 3, none⟩) (Blk.below HE4.out b5 hE4) (by show E0 ≠ w.heap.size; omega) _
    have OS6 : Hid ((w5.setCell ⟨w.heap.size, 3, none⟩ (.slice p5 K k5)).ownsRow W4.heap.size 87 2 (.slice p5 K k5) K (slCs d.sl)) := owns_set (k := w.heap.size) o5 (fun e => by have := (o5.lt _ e).1; omega) 3 _
    clear hx5 d3 x3 o5 g5 g5' b5
    generalize w5.setCell ⟨w.heap.size, 3, none⟩ (.slice p5 K k5) = W6 at *
    have HD6 := Lib.hid (H4.out.only O6.out (fun g hg he => by have := HPP.out g hg; omega))
    have hsp6 : ∀ g, (Value.slice p5 0 0).ownBlock = some g → (Value.slice a.p 0 0).ownBlock ≠ some g := fun g hg e => by
      have h1 := (OS6.out.lt g (by rw [← hg]; exact own_p _ _ _ _ _)).1
      have h2 := HPP.out g (H4.out.namesP g e)
      omega
    have HA0 : Hid (AddSt W4 W6 P w.heap.size E0 most id d a ts p3 k3 N K 0 a.p p5 none a.c k5 0) := ⟨rfl, rfl, HD6.out.names, fun g hg => .inl (HD6.out.namesP g hg), HBX6.out, HE6.out, (by rw [Nat.add_zero]; simpa [addsM] using OS6.out), World.ownsRow_nil _ _ _ _, fun g hg => (by simp [Value.ownBlock]), hsp6, fun g hg => (by simp [Value.ownBlock] at hg), O6.out⟩
    clear hsp6 HBX6 HE6 OS6 O6
    go_wp2_with fail
    go_loopg [11] N (fun r s11 wr => ∃ (j : Nat) (p' qs qn : Option Addr) (c' cs cn : Nat), r + j = N ∧ s11 = .int .i64 (j : Int) ∧ AddSt W4 wr P w.heap.size E0 most id d a ts p3 k3 N K j p' qs qn c' cs cn)
    case atStart => exact ⟨0, _, _, _, _, _, _, by omega, rfl, HA0.out⟩
    case round =>
      clear HA0
      obtain ⟨j, p', qs, qn, c', cs, cn, hr, rfl, hA⟩ := hrel
      have HR := Lib.hid hr
      have HA := Lib.hid hA
      have hjN : j ≤ N := by omega
      have d0 := Blk.cell hA.bx 0
      have d1 := Blk.cell hA.bx 1
      have d2 := Blk.cell hA.bx 2
      have d3 := Blk.cell hA.bx 3
      simp only [List.getElem?_toArray, List.getElem?_cons_zero, List.getElem?_cons_succ] at d0 d1 d2 d3
      clear hr hA
      by_cases hjl : j < N
      · obtain ⟨t, ht⟩ : ∃ t, ts[j]? = some t := ⟨_, List.getElem?_eq_getElem (by rw [HN.out]; exact hjl)⟩
        have hb4w : Below w.heap.size w W4 := HBW.out.trans (HB4.out.mono HBW.out.size)
        have hbwr : Below w.heap.size w wr := hb4w.trans (HA.out.only.below (fun g hg => by have := HE0.out; have := HBW.out.size; omega) hb4w.size)
        obtain ⟨pr, cr, hvv, -, h0 | ⟨blk, off, hp, hbl, -, hcell⟩⟩ := HV0.out.below hbwr
        · rw [List.length_map, HN.out] at h0
          omega
        have nt := hcell j (.string ⟨t.toArray⟩) (by rw [List.getElem?_map, ht]; rfl)
        injection hvv with q1 q2 q3
        rw [hp] at q1
        subst q1
        have hvt : validB t = true := HTV.out t (List.mem_of_getElem? ht)
        have hwf := adds_wf (ts.take j) d.nm HIW.out.wf hR0 HA.out.ok
        have hll : (addsM most d.nm (ts.take j)).1.length ≤ 99999 := by have := hwf.size; omega
        have htk : (ts.take j).length = j := by rw [List.length_take, HN.out]; omega
        rw [htk] at hwf
        have hADD := radd_any (w := wr.drew) (most := most) HA.out.names hwf hll (by omega) ⟨t.toArray⟩
        have hADDa := radd_any (w := (wr.alloc (.cells #[.int .i64 0, .slice none 0 0] 31)).drew) (most := most) (HA.out.names.alloc _) hwf hll (by omega) ⟨t.toArray⟩
        have hdat : (⟨t.toArray⟩ : ByteArray).data.toList = t := by simp
        rw [hdat] at hADD hADDa
        have hsp := addM_spec hwf hvt
        obtain ⟨lj, hlj⟩ : ∃ lj, (addsM most d.nm (ts.take j)).1 = lj := ⟨_, rfl⟩
        rw [hlj] at d1 hADD hADDa hsp hwf hll
        have HLJ := Lib.hid hlj
        have HTT := Lib.hid ht
        obtain ⟨⟨lz, nz, ez⟩, hzz⟩ : ∃ z, addM most lj t = z := ⟨_, rfl⟩
        rw [hzz] at hADD hADDa hsp
        simp only at hADD hADDa hsp
        have HADD := Lib.hid hADD
        have HADDa := Lib.hid hADDa
        have HZZ := Lib.hid hzz
        have HSP := Lib.hid hsp
        have hla : Below wr.heap.size wr (wr.alloc (.cells #[.int .i64 0, .slice none 0 0] 31)) := (Below.refl _ _).alloc (Nat.le_refl _) _
        have hbx := Blk.below HA.out.bx hla HA.out.bx.lt
        have D0 := Blk.cell hbx 0
        have D1 := Blk.cell hbx 1
        have D0d : (wr.alloc (.cells #[.int .i64 0, .slice none 0 0] 31)).drew.cell? ⟨w.heap.size, 0, none⟩ = _ := Blk.cell hbx 0
        have D1d : (wr.alloc (.cells #[.int .i64 0, .slice none 0 0] 31)).drew.cell? ⟨w.heap.size, 1, none⟩ = _ := Blk.cell hbx 1
        simp only [List.getElem?_toArray, List.getElem?_cons_zero, List.getElem?_cons_succ] at D0 D1 D0d D1d
        rw [HLJ.out] at D1 D1d
        have NT := (hla.cell (p := ⟨blk, off + j, none⟩) hbl).trans nt
        have NTd : (wr.alloc (.cells #[.int .i64 0, .slice none 0 0] 31)).drew.cell? ⟨blk, off + j, none⟩ = _ := NT
        have HTb : Hid (Blk (wr.alloc (.cells #[.int .i64 0, .slice none 0 0] 31)) wr.heap.size 31 #[.int .i64 0, .slice none 0 0]) := Blk.new _ _ _
        have D0e : wr.drew.cell? ⟨w.heap.size, 0, none⟩ = _ := d0
        have D1e : wr.drew.cell? ⟨w.heap.size, 1, none⟩ = _ := d1
        have NTe : wr.drew.cell? ⟨blk, off + j, none⟩ = _ := nt
        clear hcell q2 q3 hp hb4w htk hlj ht hdat hwf hll hADD hADDa hsp hzz hbx hla
        go_upto_region 9 with (fail)
        go_cut [12, 13, 14] from 57 to 67 (fun s12 s13 s14 wx => ∃ (A : Nat) (p2 : Option Addr) (c2 : Nat), s12 = .pointer (some ⟨A, 0, none⟩) ∧ s13 = .int .i64 nz ∧ s14 = .int .i64 ez ∧ Blk wx A 31 #[.int .i64 most, .slice p2 lz.length c2] ∧ wr.heap.size ≤ A ∧ Rf wx 0 p2 c2 lz ∧ (p2 = p' ∨ ∀ g, (Value.slice p2 0 0).ownBlock = some g → wr.heap.size ≤ g) ∧ Only (fun _ => False) wr wx)
        case first =>
          go_region_law (first | (go_simp; go_at_call 40; refine HADD.out.mono ?_; rintro e4 w4 ⟨p2, c2, rfl, rf2, hp2, b4⟩; have hw8 : Below wr.drew.heap.size wr.drew (w4.alloc (.cells #[.int .i64 most, .slice p2 lz.length c2] 31)) := b4.trans (((Below.refl w4.heap.size w4).alloc (Nat.le_refl _) _).mono b4.size); have hm8 : Blk (w4.alloc (.cells #[.int .i64 most, .slice p2 lz.length c2] 31)) w4.heap.size 31 #[.int .i64 most, .slice p2 lz.length c2] ∧ wr.heap.size ≤ w4.heap.size ∧ Rf (w4.alloc (.cells #[.int .i64 most, .slice p2 lz.length c2] 31)) 0 p2 c2 lz ∧ (p2 = p' ∨ ∀ g, (Value.slice p2 0 0).ownBlock = some g → wr.heap.size ≤ g) := ⟨Blk.new _ _ _, b4.size, rf2.alloc _, hp2⟩) | (go_simp; go_at_call 40; refine HADDa.out.mono ?_; rintro e4 w4 ⟨p2, c2, rfl, rf2, hp2, b4⟩; have HTb4 := Lib.hid (Blk.below (w := (wr.alloc (.cells #[.int .i64 0, .slice none 0 0] 31)).drew) HTb.out b4 HTb.out.lt); have u0 := Blk.cell HTb4.out 0; have u1 := Blk.cell HTb4.out 1; have v0 := Blk.frozen HTb4.out 0; have v1 := Blk.frozen HTb4.out 1; simp only [List.getElem?_toArray, List.getElem?_cons_zero, List.getElem?_cons_succ] at u0 u1; have B4 := Lib.hid b4; have RF2 := Lib.hid rf2; have HP2 := Lib.hid hp2))
          all_goals
            go_wp2_with fail
            go_meet
            first
              | exact ⟨w4.heap.size, p2, c2, rfl, rfl, rfl, hm8.1, hm8.2.1, hm8.2.2.1, hm8.2.2.2, ((Only.refl (fun _ => False) wr).drew).trans (Only.of_below hw8 (fun _ => False)) (fun g h => h.elim)⟩
              | (have hws : (wr.alloc (.cells #[.int .i64 0, .slice none 0 0] 31)).drew.heap.size = wr.heap.size + 1 := by simp [World.drew]
                 have hne : (Value.slice p2 lz.length c2).ownBlock ≠ some wr.heap.size := fun e => by
                   rcases HP2.out with rfl | h
                   · have := ownsRow_lt HA.out.names (g := wr.heap.size) (by rw [← e]; exact own_p _ _ _ _ _)
                     omega
                   · have := h wr.heap.size (by rw [← e]; exact own_p _ _ _ _ _)
                     omega
                 refine ⟨wr.heap.size, p2, c2, rfl, rfl, rfl, by simpa using Blk.set_ (Blk.set_ HTb4.out 0 (.int .i64 most)) 1 (.slice p2 lz.length c2), Nat.le_refl _, ?_, ?_, ?_⟩
                 · exact owns_set (k := wr.heap.size) (owns_set (k := wr.heap.size) RF2.out hne 0 _) hne 1 _
                 · exact HP2.out.imp (fun h => h) (fun h g hg => by have := h g hg; omega)
                 · exact (((((Only.refl (fun _ => False) wr).alloc _).drew).trans (Only.of_below B4.out (fun _ => False)) (fun g h => h.elim)).setCell1 (.inr (Nat.le_refl _)) 0 _).setCell1 (.inr (Nat.le_refl _)) 1 _)
        case rest =>
          obtain ⟨A, p2, c2, rfl, rfl, rfl, hAb, hA1, hrf2, hp2, ho8⟩ := hcut
          have hE := HE0.out
          have hws := HBW.out.size
          have hrl := HBR.out.lt
          have hsa := HSa.out
          have O8 := Lib.hid (HA.out.only.trans ho8 (fun g h => h.elim))
          have HAB := Lib.hid hAb
          have HRF2 := Lib.hid hrf2
          have HP2 := Lib.hid hp2
          clear hAb hrf2 hp2 D0 D1 D0d D1d NT NTd D0e D1e NTe nt d0 d1 d2 d3
          rcases HSP.out with he | ⟨l2, n, he, -⟩
          · simp only [Prod.mk.injEq] at he
            obtain ⟨rfl, rfl, rfl⟩ := he
            have HB8 := Lib.hid (Blk.only HB04.out O8.out (by omega))
            have HR8 := Lib.hid (Blk.only HBR4.out O8.out (by omega))
            have d0 := Blk.cell HB8.out 0
            have d1 := Blk.cell HB8.out 1
            have d2 := Blk.cell HB8.out 2
            have d3 := Blk.cell HB8.out 3
            have e0 := Blk.cell HR8.out 0
            have e1 := Blk.cell HR8.out 1
            have e2 := Blk.cell HR8.out 2
            have e3 := Blk.cell HR8.out 3
            have f0 := Blk.frozen HR8.out 0
            have f1 := Blk.frozen HR8.out 1
            have f2 := Blk.frozen HR8.out 2
            have f3 := Blk.frozen HR8.out 3
            simp only [List.getElem?_toArray, List.getElem?_cons_zero, List.getElem?_cons_succ] at d0 d1 d2 d3 e0 e1 e2 e3
            have HEQ : Hid (d.add most id ts = (d, [], 7)) := by
              unfold Hid Dx.add
              rw [if_neg (by rw [not_or]; exact ⟨by have := HLTT.out; omega, by rw [HTB.out]; decide⟩)]
              have h1 := (adds_snoc (ts.take j) d.nm t HA.out.ok).2 (ts.drop (j + 1)) (by rw [HLJ.out, HZZ.out]; exact (by decide : ¬ (7 : Int) = 0))
              have h2 : ts.take j ++ t :: ts.drop (j + 1) = ts := by
                have := List.getElem?_eq_some_iff.1 HTT.out
                rw [← this.2, List.getElem_cons_drop, List.take_append_drop]
              rw [h2, HLJ.out, HZZ.out] at h1
              rw [if_neg (by rw [h1]; exact (by decide : ¬ (7 : Int) = 0)), h1]
            go_upto_region 11 with (fail)
            repeat (first | go_values | go_skip | go_guarded | go_step | go_upon)
            have hz := putX_blk HR8.out most d a
            have z0 := Blk.cell hz 0
            have z1 := Blk.cell hz 1
            have z2 := Blk.cell hz 2
            have z3 := Blk.cell hz 3
            have ho := putX_only (w := wc) (R := w.heap.size + 1) most d a
            have o9 := (O8.out.more (S' := fun g => g = w.heap.size ∨ g = E0 ∨ g = w.heap.size + 1) (fun g h => .inl (by omega))).trans ho (fun g h => .inl (by omega))
            simp only [putX, List.getElem?_toArray, List.getElem?_cons_zero, List.getElem?_cons_succ] at z0 z1 z2 z3 ho o9
            exact bodyPost_ret (v := .tuple #[dixV most d a, .slice none 0 0, .int .i64 7]) (by simp [results, Tryz.results9, go_sem, z0, z1, z2, z3]) rfl (by
              rw [← HRES.out, HEQ.out]
              have hb4w : Below w.heap.size w W4 := HBW.out.trans (HB4.out.mono HBW.out.size)
              exact ⟨a, none, 0, rfl, .inl rfl, (H4.out.only o9 (fun g hg he => by have := HPP.out g hg; omega)).more (fun g hg => .inl hg), hb4w.trans (o9.below (fun g hg => by omega) hb4w.size)⟩)
          · simp only [Prod.mk.injEq] at he
            obtain ⟨rfl, rfl, rfl⟩ := he
            obtain ⟨ns, hns⟩ : ∃ ns, (addsM most d.nm (ts.take j)).2.1 = ns := ⟨_, rfl⟩
            have HTK : Hid (addsM most d.nm (ts.take (j + 1)) = (lz, ns ++ [n], 0)) := by
              unfold Hid
              have h1 := (adds_snoc (ts.take j) d.nm t HA.out.ok).1 (by rw [HLJ.out, HZZ.out])
              rw [HLJ.out, HZZ.out, hns] at h1
              rw [List.take_add_one, HTT.out]
              simpa using h1
            have HNL : Hid (ns.length = j) := by rw [← hns]; exact HA.out.len
            have hX4 : w.heap.size < W4.heap.size := HBX4.out.lt
            have HXE : Hid (w.heap.size ≠ E0 ∧ w.heap.size < W4.heap.size ∧ E0 < W4.heap.size ∧ w.heap.size ≤ E0) := ⟨by omega, hX4, hE4, by omega⟩
            have HSR8 : Hid (wc.ownsRow W4.heap.size 87 2 (.slice qs (K + j) cs) (K + j) (slCs (d.sl ++ ns.map (fun n => (n, id))))) := by rw [← hns]; exact ownsRow_only HA.out.srow ho8 (fun g hg h => h)
            have HNR8 : Hid (wc.ownsRow W4.heap.size 3 1 (.slice qn j cn) j (numsV ns)) := by rw [← hns]; exact ownsRow_only HA.out.nrow ho8 (fun g hg h => h)
            have HBX8 : Hid (Blk wc w.heap.size 35 #[.int .i64 most, .slice p' lj.length c', .slice a.pA d.all.length a.cA, .slice qs (K + j) cs]) := by rw [← HLJ.out]; exact Blk.only HA.out.bx ho8 (fun h => h)
            have HBE8 := Lib.hid (Blk.only HA.out.be ho8 (fun h => h))
            have HQS : Hid (∀ g, (Value.slice qs 0 0).ownBlock = some g → W4.heap.size ≤ g ∧ g < wr.heap.size) := fun g hg => HA.out.srow.lt g (by rw [← hg]; exact own_p _ _ _ _ _)
            have HQN : Hid (∀ g, (Value.slice qn 0 0).ownBlock = some g → W4.heap.size ≤ g ∧ g < wr.heap.size) := fun g hg => HA.out.nrow.lt g (by rw [← hg]; exact own_p _ _ _ _ _)
            have HWZ : Hid (W4.heap.size ≤ wr.heap.size ∧ wr.heap.size ≤ wc.heap.size) := ⟨HA.out.only.size, ho8.size⟩
            have HP5 : Hid (∀ g, (Value.slice p2 0 0).ownBlock = some g → P g ∨ W4.heap.size ≤ g) := fun g hg => by
              rcases HP2.out with rfl | h
              · exact HA.out.namesP g hg
              · have := h g hg; have := HWZ.out.1; exact .inr (by omega)
            have HSP : Hid (∀ g, (Value.slice qs 0 0).ownBlock = some g → (Value.slice p2 0 0).ownBlock ≠ some g) := fun g hg e => by
              rcases HP2.out with rfl | h
              · exact HA.out.sp g hg e
              · have := h g e; have := (HQS.out g hg).2; omega
            have HNP : Hid (∀ g, (Value.slice qn 0 0).ownBlock = some g → (Value.slice p2 0 0).ownBlock ≠ some g) := fun g hg e => by
              rcases HP2.out with rfl | h
              · exact HA.out.np g hg e
              · have := h g e; have := (HQN.out g hg).2; omega
            have HSN : Hid (∀ g, (Value.slice qs 0 0).ownBlock = some g → (Value.slice qn 0 0).ownBlock ≠ some g) := HA.out.sn
            have HPX : Hid (∀ g, (Value.slice p2 0 0).ownBlock = some g → g ≠ w.heap.size ∧ g ≠ E0) := fun g hg => by
              have hx := HXE.out
              rcases HP5.out g hg with h | h
              · have := HPP.out g h; omega
              · omega
            clear hns hE hws hrl hsa hA1 ho8 hX4 hbwr hX2 hR2 hB2 hE4 hE2
            have t0 := Blk.cell HAB.out 0
            have t1 := Blk.cell HAB.out 1
            have x0 := Blk.cell HBX8.out 0
            have x1 := Blk.cell HBX8.out 1
            have g0 := Blk.frozen HBX8.out 0
            have g1 := Blk.frozen HBX8.out 1
            simp only [List.getElem?_toArray, List.getElem?_cons_zero, List.getElem?_cons_succ] at t0 t1 x0 x1
            go_upto_region 13 with (fail)
            have o5 : Only (fun g => g = w.heap.size) wc ((wc.setCell ⟨w.heap.size, 0, none⟩ (.int .i64 most)).setCell ⟨w.heap.size, 1, none⟩ (.slice p2 lz.length c2)) := ((Only.refl (fun g => g = w.heap.size) wc).setCell1 (.inl rfl) 0 _).setCell1 (.inl rfl) 1 _
            have HBX5 : Hid (Blk ((wc.setCell ⟨w.heap.size, 0, none⟩ (.int .i64 most)).setCell ⟨w.heap.size, 1, none⟩ (.slice p2 lz.length c2)) w.heap.size 35 #[.int .i64 most, .slice p2 lz.length c2, .slice a.pA d.all.length a.cA, .slice qs (K + j) cs]) := by
              have := Blk.set_ (Blk.set_ HBX8.out 0 (.int .i64 most)) 1 (.slice p2 lz.length c2)
              unfold Hid
              simpa using this
            have HBE5 := Lib.hid (Blk.only HBE8.out o5 (fun h => HXE.out.1 h.symm))
            have HSR5 := Lib.hid (ownsRow_only HSR8.out o5 (fun g hg h => by have := (HQS.out g (by rw [← hg]; exact own_p _ _ _ _ _)).1; have := HXE.out; omega))
            have HNR5 := Lib.hid (ownsRow_only HNR8.out o5 (fun g hg h => by have := (HQN.out g (by rw [← hg]; exact own_p _ _ _ _ _)).1; have := HXE.out; omega))
            have HRF5 := Lib.hid (ownsRow_only HRF2.out o5 (fun g hg h => (HPX.out g (by rw [← hg]; exact own_p _ _ _ _ _)).1 h))
            have O5w := Lib.hid (O8.out.trans o5 (fun g h => .inl (.inl h)))
            have HWZ5 : Hid (wr.heap.size ≤ ((wc.setCell ⟨w.heap.size, 0, none⟩ (.int .i64 most)).setCell ⟨w.heap.size, 1, none⟩ (.slice p2 lz.length c2)).heap.size) := by have := HWZ.out.2; have := o5.size; unfold Hid; omega
            clear t0 t1 x0 x1 g0 g1 o5
            generalize (wc.setCell ⟨w.heap.size, 0, none⟩ (.int .i64 most)).setCell ⟨w.heap.size, 1, none⟩ (.slice p2 lz.length c2) = V5 at *
            have e2 := Blk.cell HBE5.out 2
            simp only [List.getElem?_toArray, List.getElem?_cons_zero, List.getElem?_cons_succ] at e2
            go_wp2_with (at_builtin; refine wpList_append_own_at _ rfl _ _ 40 rfl W4.heap.size 3 ii (.int .i64 0) 1 8 Tryz.underlying40 hii hy0 hy1 hy2 rfl (by decide) _ _ _ rfl (HNR5.out.alloc _) ⟨V5.heap.size, 0, none⟩ 1 1 [.int .i64 (n : Int)] rfl rfl ?c1 ?c2 ?c3 ?c4 ?c5 ?_)
            case c1 => exact cell_one_new _ _ _
            case c2 => exact one_int _ _
            case c3 => unfold maxLen; omega
            case c4 => omega
            case c5 => have := HWZ5.out; have := HWZ.out; simp; omega
            intro v6 w6 hown6 hg6 _ hvb6
            obtain ⟨qm, cm, rfl⟩ := owns_form hown6
            have ou := only_grown hg6
            have HBX6 := Lib.hid (Blk.only (HBX5.out.alloc _) ou (fun h => by have := (HQN.out _ (by rw [← h]; exact own_p _ _ _ _ _)).1; have := HXE.out; omega))
            have HBE6 := Lib.hid (Blk.only (HBE5.out.alloc _) ou (fun h => by have := (HQN.out _ (by rw [← h]; exact own_p _ _ _ _ _)).1; have := HXE.out; omega))
            have HSR6 := Lib.hid (ownsRow_only (HSR5.out.alloc _) ou (fun g hg h => HSN.out g (by rw [← hg]; exact own_p _ _ _ _ _) (by rw [← h]; exact own_p _ _ _ _ _)))
            have HRF6 := Lib.hid (ownsRow_only (HRF5.out.alloc _) ou (fun g hg h => HNP.out g (by rw [← h]; exact own_p _ _ _ _ _) (by rw [← hg]; exact own_p _ _ _ _ _)))
            have HNR6 := Lib.hid hown6
            have O6 := Lib.hid ((O5w.out.alloc _).trans ou (fun g h => .inr (HQN.out g (by rw [← h]; exact own_p _ _ _ _ _)).1))
            have HQM : Hid (∀ g, (Value.slice qm 0 0).ownBlock = some g → (Value.slice qn 0 0).ownBlock = some g ∨ g = V5.heap.size + 1) := fun g hg => by
              rcases hvb6 with h | h
              · exact .inl (by rw [own_p qn 0 0 j cn, ← h, own_p qm (j + 1) cm 0 0]; exact hg)
              · rw [own_p qm (j + 1) cm 0 0, hg] at h
                injection h with h
                exact .inr (by simpa using h)
            have HLT6 : Hid (∀ g, (Value.slice p2 0 0).ownBlock = some g → g < V5.heap.size) := fun g hg => ownsRow_lt HRF5.out (by rw [← hg]; exact own_p _ _ _ _ _)
            have HST6 : Hid (∀ g, (Value.slice qs 0 0).ownBlock = some g → g < V5.heap.size) := fun g hg => ownsRow_lt HSR5.out (by rw [← hg]; exact own_p _ _ _ _ _)
            have HNP6 : Hid (∀ g, (Value.slice qm 0 0).ownBlock = some g → (Value.slice p2 0 0).ownBlock ≠ some g) := fun g hg e => by
              rcases HQM.out g hg with h | h
              · exact HNP.out g h e
              · have := HLT6.out g e; omega
            have HSN6 : Hid (∀ g, (Value.slice qs 0 0).ownBlock = some g → (Value.slice qm 0 0).ownBlock ≠ some g) := fun g hg e => by
              rcases HQM.out g e with h | h
              · exact HSN.out g hg h
              · have := HST6.out g hg; omega
            have HQM6 : Hid (∀ g, (Value.slice qm 0 0).ownBlock = some g → W4.heap.size ≤ g ∧ g < w6.heap.size) := fun g hg => hown6.lt g (by rw [← hg]; exact own_p _ _ _ _ _)
            have HS6 : Hid (V5.heap.size ≤ w6.heap.size) := by have := ou.size; simp at this; unfold Hid; omega
            clear e2 hown6 hg6 hvb6 ou
            have e2 := Blk.cell HBE6.out 2
            have g2 := Blk.frozen HBE6.out 2
            simp only [List.getElem?_toArray, List.getElem?_cons_zero, List.getElem?_cons_succ] at e2
            go_upto_region 14 with (fail)
            have o7 : Only (fun g => g = E0) w6 (w6.setCell ⟨E0, 2, none⟩ (.slice qm (j + 1) cm)) := (Only.refl (fun g => g = E0) w6).setCell1 (.inl rfl) 2 _
            have HBE7 : Hid (Blk (w6.setCell ⟨E0, 2, none⟩ (.slice qm (j + 1) cm)) E0 75 #[.int .u64 (id : Int), .slice p3 N k3, .slice qm (j + 1) cm, .bool true]) := by
              have := Blk.set_ HBE6.out 2 (.slice qm (j + 1) cm)
              unfold Hid
              simpa using this
            have HBX7 := Lib.hid (Blk.only HBX6.out o7 (fun h => HXE.out.1 h))
            have HSR7 := Lib.hid (ownsRow_only HSR6.out o7 (fun g hg h => by have := (HQS.out g (by rw [← hg]; exact own_p _ _ _ _ _)).1; have := HXE.out; omega))
            have HNR7 := Lib.hid (ownsRow_only HNR6.out o7 (fun g hg h => by have := (HQM6.out g (by rw [← hg]; exact own_p _ _ _ _ _)).1; have := HXE.out; omega))
            have HRF7 := Lib.hid (ownsRow_only HRF6.out o7 (fun g hg h => (HPX.out g (by rw [← hg]; exact own_p _ _ _ _ _)).2 h))
            have O7 := Lib.hid (O6.out.trans o7 (fun g h => .inl (.inr h)))
            have HS7 : Hid (V5.heap.size ≤ (w6.setCell ⟨E0, 2, none⟩ (.slice qm (j + 1) cm)).heap.size) := by have := HS6.out; have := o7.size; unfold Hid; omega
            have HLM7 : Hid (∀ g, (Value.slice qm 0 0).ownBlock = some g → W4.heap.size ≤ g ∧ g < (w6.setCell ⟨E0, 2, none⟩ (.slice qm (j + 1) cm)).heap.size) := fun g hg => ⟨(HQM6.out g hg).1, Nat.lt_of_lt_of_le (HQM6.out g hg).2 o7.size⟩
            clear e2 g2 o7
            generalize w6.setCell ⟨E0, 2, none⟩ (.slice qm (j + 1) cm) = V7 at *
            have d3 := Blk.cell HBX7.out 3
            simp only [List.getElem?_toArray, List.getElem?_cons_zero, List.getElem?_cons_succ] at d3
            go_wp2_with (at_builtin; refine wpList_append_own_at _ rfl _ _ 33 rfl W4.heap.size 87 isl (.agg #[.int .i64 0, .int .u64 0]) 2 16 Tryz.underlying33 hisl hl0 hl1 hl2 rfl (by decide) _ _ _ rfl (HSR7.out.alloc _) ⟨V7.heap.size, 0, none⟩ 1 1 [.int .i64 (n : Int), .int .u64 (id : Int)] rfl rfl ?c1 ?c2 ?c3 ?c4 ?c5 ?_)
            case c1 =>
              intro i u hi
              rw [addr_add0, Blk.cell (Blk.new V7 87 #[.int .i64 (n : Int), .int .u64 (id : Int)]) i]
              simpa using hi
            case c2 => intro u hu; simp at hu; rcases hu with rfl | rfl <;> rfl
            case c3 => unfold maxLen; omega
            case c4 => omega
            case c5 => have := HWZ5.out; have := HWZ.out; have := HS7.out; simp; omega
            intro v8 w8 hown8 hg8 _ hvb8
            obtain ⟨qt, ct, rfl⟩ := owns_form hown8
            have ou := only_grown hg8
            have HBX8' := Lib.hid (Blk.only (HBX7.out.alloc _) ou (fun h => by have := (HQS.out _ (by rw [← h]; exact own_p _ _ _ _ _)).1; have := HXE.out; omega))
            have HBE8' := Lib.hid (Blk.only (HBE7.out.alloc _) ou (fun h => by have := (HQS.out _ (by rw [← h]; exact own_p _ _ _ _ _)).1; have := HXE.out; omega))
            have HNR8' := Lib.hid (ownsRow_only (HNR7.out.alloc _) ou (fun g hg h => HSN6.out g (by rw [← h]; exact own_p _ _ _ _ _) (by rw [← hg]; exact own_p _ _ _ _ _)))
            have HRF8 := Lib.hid (ownsRow_only (HRF7.out.alloc _) ou (fun g hg h => HSP.out g (by rw [← h]; exact own_p _ _ _ _ _) (by rw [← hg]; exact own_p _ _ _ _ _)))
            have HSR8' := Lib.hid hown8
            have O8' := Lib.hid ((O7.out.alloc _).trans ou (fun g h => .inr (HQS.out g (by rw [← h]; exact own_p _ _ _ _ _)).1))
            have HQT : Hid (∀ g, (Value.slice qt 0 0).ownBlock = some g → (Value.slice qs 0 0).ownBlock = some g ∨ g = V7.heap.size + 1) := fun g hg => by
              rcases hvb8 with h | h
              · exact .inl (by rw [own_p qs 0 0 (K + j) cs, ← h, own_p qt (K + j + 1) ct 0 0]; exact hg)
              · rw [own_p qt (K + j + 1) ct 0 0, hg] at h
                injection h with h
                exact .inr (by simpa using h)
            have HSP8 : Hid (∀ g, (Value.slice qt 0 0).ownBlock = some g → (Value.slice p2 0 0).ownBlock ≠ some g) := fun g hg e => by
              rcases HQT.out g hg with h | h
              · exact HSP.out g h e
              · have := HLT6.out g e; have := HS7.out; omega
            have HSN8 : Hid (∀ g, (Value.slice qt 0 0).ownBlock = some g → (Value.slice qm 0 0).ownBlock ≠ some g) := fun g hg e => by
              rcases HQT.out g hg with h | h
              · exact HSN6.out g h e
              · have := (HLM7.out g e).2; omega
            have HQT8 : Hid (∀ g, (Value.slice qt 0 0).ownBlock = some g → W4.heap.size ≤ g) := fun g hg => (hown8.lt g (by rw [← hg]; exact own_p _ _ _ _ _)).1
            clear d3 hown8 hg8 hvb8 ou
            have d3 := Blk.cell HBX8'.out 3
            have g3 := Blk.frozen HBX8'.out 3
            simp only [List.getElem?_toArray, List.getElem?_cons_zero, List.getElem?_cons_succ] at d3
            go_wp2_with fail
            go_roundg (N - (j + 1))
            case measure => have := HR.out; omega
            case rel =>
              have o9 : Only (fun g => g = w.heap.size) w8 (w8.setCell ⟨w.heap.size, 3, none⟩ (.slice qt (K + j + 1) ct)) := (Only.refl (fun g => g = w.heap.size) w8).setCell1 (.inl rfl) 3 _
              refine ⟨j + 1, p2, qt, qm, c2, ct, cm, by omega, by go_num, ?_⟩
              have hx9 := Blk.set_ HBX8'.out 3 (.slice qt (K + j + 1) ct)
              have hs := HTK.out
              refine ⟨by rw [hs], by rw [hs, List.length_append, HNL.out]; rfl, ?_, HP5.out, ?_, Blk.only HBE8'.out o9 (fun h => HXE.out.1 h.symm), ?_, ?_, HSN8.out, HSP8.out, HNP6.out, O8'.out.trans o9 (fun g h => .inl (.inl h))⟩
              · rw [hs]
                exact ownsRow_only HRF8.out o9 (fun g hg h => (HPX.out g (by rw [← hg]; exact own_p _ _ _ _ _)).1 h)
              · rw [hs, ← Nat.add_assoc]
                simpa using hx9
              · rw [hs, ← Nat.add_assoc]
                have h1 := ownsRow_only HSR8'.out o9 (fun g hg h => by have := HQT8.out g (by rw [← hg]; exact own_p _ _ _ _ _); have := HXE.out; omega)
                have h2 : slCs (d.sl ++ (ns ++ [n]).map (fun n => (n, id))) = slCs (d.sl ++ ns.map (fun n => (n, id))) ++ [.int .i64 (n : Int), .int .u64 (id : Int)] := by
                  rw [List.map_append, ← List.append_assoc, sl_app]
                  rfl
                rw [h2]
                exact h1
              · rw [hs]
                have h1 := ownsRow_only HNR8'.out o9 (fun g hg h => by have := (HLM7.out g (by rw [← hg]; exact own_p _ _ _ _ _)).1; have := HXE.out; omega)
                have h2 : numsV (ns ++ [n]) = numsV ns ++ [.int .i64 (n : Int)] := by simp [numsV]
                rw [h2]
                exact h1
      · obtain rfl : j = N := by omega
        have HTKN : Hid (ts.take j = ts) := List.take_of_length_le (by rw [HN.out]; exact Nat.le_refl _)
        obtain ⟨⟨lz, ns, ez⟩, hz⟩ : ∃ z, addsM most d.nm ts = z := ⟨_, rfl⟩
        have hok := HA.out.ok
        have hln := HA.out.len
        have hnm := HA.out.names
        have hbx := HA.out.bx
        have hsr := HA.out.srow
        have hnr := HA.out.nrow
        rw [HTKN.out, hz] at hok hln hnm hbx hsr hnr
        simp only at hok hln hnm hbx hsr hnr
        subst hok
        have HEQ : Hid (d.add most id ts = (⟨lz, d.all ++ [⟨id, ts, ns, true⟩], d.sl ++ ns.map (fun n => (n, id))⟩, ns, 0)) := by
          unfold Hid Dx.add
          rw [if_neg (by rw [not_or]; exact ⟨by have := HLTT.out; omega, by rw [HTB.out]; decide⟩), hz, if_pos rfl]
        obtain ⟨Mv, hMv⟩ : ∃ Mv, d.all.length = Mv := ⟨_, rfl⟩
        have HMV := Lib.hid hMv
        have hMl : Mv ≤ 100000 := by rw [← hMv, HM.out]; exact hl
        have hX4 : w.heap.size < W4.heap.size := HBX4.out.lt
        have HXE : Hid (w.heap.size ≠ E0 ∧ w.heap.size < W4.heap.size ∧ E0 < W4.heap.size ∧ w.heap.size < E0) := ⟨by omega, hX4, hE4, by omega⟩
        have HRr : Hid (Dix wr P d a) := H4.out.only HA.out.only (fun g hg he => by have := HPP.out g hg; have := HXE.out; omega)
        have HEL : Hid ((ensCs d.all a.C).length = Mv * 4) := by have := ens_len H4.out.len; rw [HMV.out] at this; exact this
        have HLIES : Hid (∀ w', Below wr.heap.size wr w' → Lies w' 4 (.slice a.pA Mv a.cA) Mv (ensCs d.all a.C)) := fun w' hb => by
          have h := HRr.out.all.below hb
          rw [HMV.out] at h
          exact h.liesW HEL.out
        have HBEr := Lib.hid HA.out.be
        have HOr := Lib.hid HA.out.only
        have HNPr := Lib.hid HA.out.namesP
        have HSNr := Lib.hid HA.out.sn
        rw [hMv] at hbx
        have HBXr := Lib.hid hbx
        have HNMr := Lib.hid hnm
        have HSRr := Lib.hid hsr
        have HNRr := Lib.hid hnr
        have HLNr := Lib.hid hln
        have HMl := Lib.hid hMl
        clear hbx hnm hsr hnr hln hMv hz hX4 d0 d1 d2 d3 hX2 hR2 hB2 hE4 hE2 hl
        -- the two orders
        have dwr : Below wr.heap.size wr wr.drew := (Below.refl _ _).drew
        obtain ⟨v6, w6, hA1, o6, g6, hv6⟩ := run_append_lying (P := Tryz.prog) wr.drew wr.heap.size 32 32 75 ien (.agg #[.int .u64 0, .slice none 0 0, .slice none 0 0, .bool false]) 4 64 Tryz.underlying32 hien hn0 hn1 hn2 rfl (by decide) (.slice none 0 0) 0 [] (World.ownsRow_nil _ _ _ _) (.slice a.pA Mv a.cA) Mv (ensCs d.all a.C) (HLIES.out _ dwr) (ens_one _ _) (by unfold maxLen; omega) (by omega) (Nat.le_refl _)
        rw [Nat.zero_add, List.nil_append] at o6
        obtain ⟨p6, k6, rfl⟩ := owns_form o6
        have b6 : Below wr.heap.size wr.drew w6 := (Below.refl _ _).grown g6 (Nat.le_refl _) (fun j hj => by cases hj)
        have b6r : Below wr.heap.size wr w6 := dwr.trans (b6.mono dwr.size)
        have a6 : Below w6.heap.size w6 (w6.alloc (.cells #[.int .u64 (id : Int), .slice p3 j k3, .slice qn j cn, .bool true] 75)) := (Below.refl _ _).alloc (Nat.le_refl _) _
        obtain ⟨v7, w7, hA2, o7, g7, -, hv7⟩ := run_append_own_at (P := Tryz.prog) (w := w6.alloc (.cells #[.int .u64 (id : Int), .slice p3 j k3, .slice qn j cn, .bool true] 75)) wr.heap.size 32 32 75 ien (.agg #[.int .u64 0, .slice none 0 0, .slice none 0 0, .bool false]) 4 64 Tryz.underlying32 hien hn0 hn1 hn2 rfl (by decide) (.slice p6 Mv k6) Mv (ensCs d.all a.C) (o6.alloc _) ⟨w6.heap.size, 0, none⟩ 1 1 [.int .u64 (id : Int), .slice p3 j k3, .slice qn j cn, .bool true] rfl (fun i u hi => by rw [addr_add0]; exact (Blk.cell (Blk.new w6 75 #[.int .u64 (id : Int), .slice p3 j k3, .slice qn j cn, .bool true]) i).trans (by simpa using hi)) (fun u hu => by simp at hu; rcases hu with rfl | rfl | rfl | rfl <;> rfl) (by unfold maxLen; omega) (by omega) (Nat.le_trans b6r.size a6.size)
        obtain ⟨p7, k7, rfl⟩ := owns_form o7
        have b7 : Below wr.heap.size wr w7 := by
          have h1 := b6r.trans (a6.mono b6r.size)
          exact h1.trans ((only_grown g7).below (fun g hg => (o6.lt g hg).1) h1.size)
        -- the other
        have awr : Below wr.heap.size wr (wr.alloc (.cells #[.int .u64 (id : Int), .slice p3 j k3, .slice qn j cn, .bool true] 75)).drew := ((Below.refl _ _).alloc (Nat.le_refl _) _).drew
        have hnb : Blk (wr.alloc (.cells #[.int .u64 (id : Int), .slice p3 j k3, .slice qn j cn, .bool true] 75)).drew wr.heap.size 75 #[.int .u64 (id : Int), .slice p3 j k3, .slice qn j cn, .bool true] := Blk.new _ _ _
        obtain ⟨v8, w8, hB1, o8, g8, hv8⟩ := run_append_lying (P := Tryz.prog) (wr.alloc (.cells #[.int .u64 (id : Int), .slice p3 j k3, .slice qn j cn, .bool true] 75)).drew wr.heap.size 32 32 75 ien (.agg #[.int .u64 0, .slice none 0 0, .slice none 0 0, .bool false]) 4 64 Tryz.underlying32 hien hn0 hn1 hn2 rfl (by decide) (.slice none 0 0) 0 [] (World.ownsRow_nil _ _ _ _) (.slice a.pA Mv a.cA) Mv (ensCs d.all a.C) (HLIES.out _ awr) (ens_one _ _) (by unfold maxLen; omega) (by omega) awr.size
        rw [Nat.zero_add, List.nil_append] at o8
        obtain ⟨p8, k8, rfl⟩ := owns_form o8
        have b8 : Below (wr.alloc (.cells #[.int .u64 (id : Int), .slice p3 j k3, .slice qn j cn, .bool true] 75)).drew.heap.size (wr.alloc (.cells #[.int .u64 (id : Int), .slice p3 j k3, .slice qn j cn, .bool true] 75)).drew w8 := (Below.refl _ _).grown g8 (Nat.le_refl _) (fun j hj => by cases hj)
        have b8r : Below wr.heap.size wr w8 := awr.trans (b8.mono awr.size)
        have hnb8 := Blk.below hnb b8 hnb.lt
        obtain ⟨v9, w9', hB2, o9, g9, -, hv9⟩ := run_append_own_at (P := Tryz.prog) (w := w8) wr.heap.size 32 32 75 ien (.agg #[.int .u64 0, .slice none 0 0, .slice none 0 0, .bool false]) 4 64 Tryz.underlying32 hien hn0 hn1 hn2 rfl (by decide) (.slice p8 Mv k8) Mv (ensCs d.all a.C) o8 ⟨wr.heap.size, 0, none⟩ 1 1 [.int .u64 (id : Int), .slice p3 j k3, .slice qn j cn, .bool true] rfl (fun i u hi => by rw [addr_add0]; exact (Blk.cell hnb8 i).trans (by simpa using hi)) (fun u hu => by simp at hu; rcases hu with rfl | rfl | rfl | rfl <;> rfl) (by unfold maxLen; omega) (by omega) b8r.size
        obtain ⟨p9, k9, rfl⟩ := owns_form o9
        have b9 : Below wr.heap.size wr w9' := b8r.trans ((only_grown g9).below (fun g hg => (o8.lt g hg).1) b8r.size)
        rw [appS_eq] at hA1 hA2 hB1 hB2
        have hbx7 := Blk.below HBXr.out b7 HBXr.out.lt
        have hbx9 := Blk.below HBXr.out b9 HBXr.out.lt
        have hbe6 := Blk.below HBEr.out b6r HBEr.out.lt
        have e0 := Blk.cell hbe6 0
        have e1 := Blk.cell hbe6 1
        have e2 := Blk.cell hbe6 2
        have e3 := Blk.cell hbe6 3
        have E0d : wr.drew.cell? ⟨E0, 0, none⟩ = _ := Blk.cell HBEr.out 0
        have E1d : wr.drew.cell? ⟨E0, 1, none⟩ = _ := Blk.cell HBEr.out 1
        have E2d : wr.drew.cell? ⟨E0, 2, none⟩ = _ := Blk.cell HBEr.out 2
        have E3d : wr.drew.cell? ⟨E0, 3, none⟩ = _ := Blk.cell HBEr.out 3
        have r0 := Blk.cell HBEr.out 0
        have r1 := Blk.cell HBEr.out 1
        have r2 := Blk.cell HBEr.out 2
        have r3 := Blk.cell HBEr.out 3
        have d2 := Blk.cell HBXr.out 2
        have D2 : wr.drew.cell? ⟨w.heap.size, 2, none⟩ = _ := Blk.cell HBXr.out 2
        have A2 := (awr.cell (p := ⟨w.heap.size, 2, none⟩) HBXr.out.lt).trans (Blk.cell HBXr.out 2)
        have d7 := Blk.cell hbx7 2
        have f7 := Blk.frozen hbx7 2
        have d9 := Blk.cell hbx9 2
        have f9 := Blk.frozen hbx9 2
        simp only [List.getElem?_toArray, List.getElem?_cons_zero, List.getElem?_cons_succ] at d2 D2 A2 d7 d9 e0 e1 e2 e3 E0d E1d E2d E3d r0 r1 r2 r3
        have O7 := Lib.hid o7
        have B7 := Lib.hid b7
        have O9 := Lib.hid o9
        have B9 := Lib.hid b9
        clear o6 g6 hv6 o7 g7 hv7 b6 dwr b6r a6 b7 hbx7 hbe6 hien hn0 hn1 hn2 o8 g8 hv8 o9 g9 hv9 b8 awr b8r b9 hbx9 hnb hnb8
        have HXL7 := Lib.hid (Blk.below HBXr.out B7.out HBXr.out.lt)
        have HXL9 := Lib.hid (Blk.below HBXr.out B9.out HBXr.out.lt)
        go_upto_region 15 with (fail)
        go_cut [] from 88 to 94 (fun wx => ∃ (pz : Option Addr) (kz : Nat), wx.ownsRow wr.heap.size 75 4 (.slice pz (Mv + 1) kz) (Mv + 1) (ensCs d.all a.C ++ [.int .u64 (id : Int), .slice p3 j k3, .slice qn j cn, .bool true]) ∧ Blk wx w.heap.size 35 #[.int .i64 most, .slice p' lz.length c', .slice pz (Mv + 1) kz, .slice qs (K + j) cs] ∧ Only (fun g => g = w.heap.size) wr wx)
        case first =>
          go_region
          · go_wp2_with fail
            go_meet
            have hb := Blk.set_ HXL7.out 2 (.slice p7 (Mv + 1) k7)
            have ho := (Only.of_below B7.out (fun g => g = w.heap.size)).setCell1 (.inl rfl) 2 (.slice p7 (Mv + 1) k7)
            exact ⟨p7, k7, owns_set (k := w.heap.size) O7.out (fun e => by have := (O7.out.lt _ e).1; have := HXL7.out.lt; have := HBXr.out.lt; omega) 2 _, by simpa using hb, ho⟩
          · go_wp2_with fail
            go_meet
            have hb := Blk.set_ HXL9.out 2 (.slice p9 (Mv + 1) k9)
            have ho := (Only.of_below B9.out (fun g => g = w.heap.size)).setCell1 (.inl rfl) 2 (.slice p9 (Mv + 1) k9)
            exact ⟨p9, k9, owns_set (k := w.heap.size) O9.out (fun e => by have := (O9.out.lt _ e).1; have := HBXr.out.lt; omega) 2 _, by simpa using hb, ho⟩
        case rest =>
          clear hA1 hA2 hB1 hB2 O7 O9 B7 B9 HXL7 HXL9 e0 e1 e2 e3 E0d E1d E2d E3d r0 r1 r2 r3 d2 D2 A2 d7 f7 d9 f9
          obtain ⟨pz, kz, hpz, hbz, hoz⟩ := hcut
          have HPZ := Lib.hid hpz
          have HBZ := Lib.hid hbz
          have HOZ := Lib.hid hoz
          have HEZ := Lib.hid (Blk.only HBEr.out hoz (fun h => HXE.out.1 h.symm))
          have hrr : Blk wr (w.heap.size + 1) 35 zeroX := Blk.only HBR4.out HOr.out (by have := HXE.out; have := HE0.out; have := HBR.out.lt; omega)
          have HRZ := Lib.hid (Blk.only hrr hoz (by omega))
          have d0 := Blk.cell HBZ.out 0
          have d1 := Blk.cell HBZ.out 1
          have d2 := Blk.cell HBZ.out 2
          have d3 := Blk.cell HBZ.out 3
          have n2 := Blk.cell HEZ.out 2
          have N2 : wc.drew.cell? ⟨E0, 2, none⟩ = _ := Blk.cell HEZ.out 2
          have D0 : wc.drew.cell? ⟨w.heap.size, 0, none⟩ = _ := Blk.cell HBZ.out 0
          have D1 : wc.drew.cell? ⟨w.heap.size, 1, none⟩ = _ := Blk.cell HBZ.out 1
          have D2 : wc.drew.cell? ⟨w.heap.size, 2, none⟩ = _ := Blk.cell HBZ.out 2
          have D3 : wc.drew.cell? ⟨w.heap.size, 3, none⟩ = _ := Blk.cell HBZ.out 3
          have e0 : wc.drew.cell? ⟨w.heap.size + 1, 0, none⟩ = _ := Blk.cell HRZ.out 0
          have e1 : wc.drew.cell? ⟨w.heap.size + 1, 1, none⟩ = _ := Blk.cell HRZ.out 1
          have e2 : wc.drew.cell? ⟨w.heap.size + 1, 2, none⟩ = _ := Blk.cell HRZ.out 2
          have e3 : wc.drew.cell? ⟨w.heap.size + 1, 3, none⟩ = _ := Blk.cell HRZ.out 3
          have f0 : wc.drew.frozen? ⟨w.heap.size + 1, 0, none⟩ = false := Blk.frozen HRZ.out 0
          have f1 : wc.drew.frozen? ⟨w.heap.size + 1, 1, none⟩ = false := Blk.frozen HRZ.out 1
          have f2 : wc.drew.frozen? ⟨w.heap.size + 1, 2, none⟩ = false := Blk.frozen HRZ.out 2
          have f3 : wc.drew.frozen? ⟨w.heap.size + 1, 3, none⟩ = false := Blk.frozen HRZ.out 3
          have q0 := Blk.cell HRZ.out 0
          have h0 := Blk.frozen HRZ.out 0
          have q1 := Blk.cell HRZ.out 1
          have h1 := Blk.frozen HRZ.out 1
          have q2 := Blk.cell HRZ.out 2
          have h2 := Blk.frozen HRZ.out 2
          have q3 := Blk.cell HRZ.out 3
          have h3 := Blk.frozen HRZ.out 3
          simp only [List.getElem?_toArray, List.getElem?_cons_zero, List.getElem?_cons_succ] at q0 q1 q2 q3 d0 d1 d2 d3 n2 N2 D0 D1 D2 D3 e0 e1 e2 e3
          have hne1 : ¬ E0 = w.heap.size + 1 := by have := HE0.out; have := HBR.out.lt; omega
          have hne2 : ¬ w.heap.size + 1 = E0 := fun e => hne1 e.symm
          clear hpz hbz hoz hrr
          go_upto_region 16 with (fail)
          go_region
          all_goals repeat (first | go_values | go_skip | go_guarded | go_step | go_upon)
          have hN1 : (d.all ++ [(⟨id, ts, ns, true⟩ : En)]).length = Mv + 1 := by rw [List.length_append, HMV.out]; rfl
          have hN2 : (d.sl ++ ns.map (fun n => (n, id))).length = K + j := by rw [List.length_append, HK.out, List.length_map, HLNr.out]
          have hN3 : ns.length = j := HLNr.out
          have hz := putX_blk HRZ.out most ⟨lz, d.all ++ [⟨id, ts, ns, true⟩], d.sl ++ ns.map (fun n => (n, id))⟩ ⟨p', c', pz, kz, qs, cs, a.C ++ [⟨p3, k3, qn, cn⟩]⟩
          have z0 := Blk.cell hz 0
          have z1 := Blk.cell hz 1
          have z2 := Blk.cell hz 2
          have z3 := Blk.cell hz 3
          have ho := putX_only (w := wc) (R := w.heap.size + 1) most ⟨lz, d.all ++ [⟨id, ts, ns, true⟩], d.sl ++ ns.map (fun n => (n, id))⟩ ⟨p', c', pz, kz, qs, cs, a.C ++ [⟨p3, k3, qn, cn⟩]⟩
          simp only [putX, List.getElem?_toArray, List.getElem?_cons_zero, List.getElem?_cons_succ] at z0 z1 z2 z3 ho
          rw [hN1, hN2] at z0 z1 z2 z3 ho
          exact bodyPost_ret (v := .tuple #[dixV most ⟨lz, d.all ++ [⟨id, ts, ns, true⟩], d.sl ++ ns.map (fun n => (n, id))⟩ ⟨p', c', pz, kz, qs, cs, a.C ++ [⟨p3, k3, qn, cn⟩]⟩, .slice qn j cn, .int .i64 0]) (by simp [results, Tryz.results9, go_sem, z0, z1, z2, z3, hN1, hN2]) rfl (by
            rw [← HRES.out, HEQ.out]
            have ow := ho.drew
            generalize ((((wc.setCell ⟨w.heap.size + 1, 0, none⟩ (.int .i64 most)).setCell ⟨w.heap.size + 1, 1, none⟩ (.slice p' lz.length c')).setCell ⟨w.heap.size + 1, 2, none⟩ (.slice pz (Mv + 1) kz)).setCell ⟨w.heap.size + 1, 3, none⟩ (.slice qs (K + j) cs)).drew = we at ow ⊢
            have owr : Only (fun g => g = w.heap.size ∨ g = w.heap.size + 1) wr we := (HOZ.out.more (S' := fun g => g = w.heap.size ∨ g = w.heap.size + 1) (fun g h => .inl (.inl h))).trans ow (fun g h => .inl (.inr h))
            have oW4 : Only (fun g => g = w.heap.size ∨ g = E0 ∨ g = w.heap.size + 1) W4 we := (HOr.out.more (S' := fun g => g = w.heap.size ∨ g = E0 ∨ g = w.heap.size + 1) (fun g h => .inl (by omega))).trans owr (fun g h => .inl (by omega))
            have hb4w : Below w.heap.size w W4 := HBW.out.trans (HB4.out.mono HBW.out.size)
            have hxe := HXE.out
            have hr4 := HBR4.out.lt
            have hx2 := HBXa.out.lt
            have hr2 := HBRa.out.lt
            have s1 := hb4w.size
            have s2 := HOr.out.size
            have s3 := owr.size
            have s4 := HOZ.out.size
            have hnp : ∀ g, (Value.slice p' 0 0).ownBlock = some g → g ≠ w.heap.size ∧ g ≠ w.heap.size + 1 := fun g hg => by
              rcases HNPr.out g hg with h | h
              · have := HPP.out g h; omega
              · omega
            have hnm := ownsRow_only HNMr.out owr (fun g hg he => by have := hnp g (by rw [← hg]; exact own_p _ _ _ _ _); omega)
            have hsr := ownsRow_only HSRr.out owr (fun g hg he => by have := (HSRr.out.lt g hg).1; omega)
            have hnr := ownsRow_only HNRr.out owr (fun g hg he => by have := (HNRr.out.lt g hg).1; omega)
            have hpz := ownsRow_only HPZ.out ow (fun g hg he => by have := (HPZ.out.lt g hg).1; omega)
            have ht3 := ownsRow_only O3.out oW4 (fun g hg he => by have := HP3.out g (by rw [← hg]; exact own_p _ _ _ _ _); omega)
            have hnum : RowS we (Nw w we P) qn j cn (numsV ns) := RowS.of_own hnr (by decide) (fun g hg => .inr ⟨by have := (hnr.lt g hg).1; omega, (hnr.lt g hg).2⟩)
            have hDr := HRr.out.only owr (fun g hg he => by have := HPP.out g hg; omega)
            refine ⟨⟨p', c', pz, kz, qs, cs, a.C ++ [⟨p3, k3, qn, cn⟩]⟩, qn, cn, ?_, ?_, ⟨hnm, fun g hg => ?_, ?_, ?_, ?_, ?_⟩, hb4w.trans (oW4.below (fun g hg => by omega) s1)⟩
            · rw [hN3]
            · rw [hN3]; exact hnum
            · rcases HNPr.out g hg with h | h
              · exact .inl h
              · exact .inr ⟨by omega, ownsRow_lt hnm (by rw [← hg]; exact own_p _ _ _ _ _)⟩
            · show RowS we _ pz (d.all ++ [(⟨id, ts, ns, true⟩ : En)]).length kz (ensCs (d.all ++ [⟨id, ts, ns, true⟩]) (a.C ++ [⟨p3, k3, qn, cn⟩]))
              rw [hN1, ens_app _ _ H4.out.len]
              have he : ensCs [(⟨id, ts, ns, true⟩ : En)] [⟨p3, k3, qn, cn⟩] = [.int .u64 (id : Int), .slice p3 j k3, .slice qn j cn, .bool true] := by
                simp [ensCs, hN3, HN.out]
              rw [he]
              exact RowS.of_own hpz (by decide) (fun g hg => .inr ⟨by have := (hpz.lt g hg).1; omega, (hpz.lt g hg).2⟩)
            · show RowS we _ qs (d.sl ++ ns.map (fun n => (n, id))).length cs (slCs (d.sl ++ ns.map (fun n => (n, id))))
              rw [hN2]
              exact RowS.of_own hsr (by decide) (fun g hg => .inr ⟨by have := (hsr.lt g hg).1; omega, (hsr.lt g hg).2⟩)
            · show (a.C ++ [_]).length = (d.all ++ [_]).length
              rw [List.length_append, List.length_append, H4.out.len]
              rfl
            · intro i e c h1 h2
              by_cases hi : i < d.all.length
              · have h1' : d.all[i]? = some e := by rw [← h1]; exact (List.getElem?_append_left hi).symm
                have h2' : a.C[i]? = some c := by rw [← h2]; exact (List.getElem?_append_left (by rw [H4.out.len]; exact hi)).symm
                obtain ⟨u1, u2⟩ := hDr.sub i e c h1' h2'
                exact ⟨u1.more (fun g hg => .inl hg), u2.more (fun g hg => .inl hg)⟩
              · have hl := (List.getElem?_eq_some_iff.1 h1).1
                simp only [List.length_append, List.length_singleton] at hl
                obtain rfl : i = d.all.length := by omega
                have h1' : e = ⟨id, ts, ns, true⟩ := by simpa using h1.symm
                have h2' : c = ⟨p3, k3, qn, cn⟩ := by
                  have := h2
                  rw [← H4.out.len] at this
                  simpa using this.symm
                subst h1' h2'
                refine ⟨?_, ?_⟩
                · show RowS we _ p3 ts.length k3 (ts.map encStr)
                  rw [HN.out]
                  exact RowS.of_own ht3 (by decide) (fun g hg => .inr ⟨by have := (ht3.lt g hg).1; omega, (ht3.lt g hg).2⟩)
                · show RowS we _ qn ns.length cn (numsV ns)
                  rw [hN3]
                  exact hnum)
end Go.Proofs.YtfpkeinknhijaaaGreat
