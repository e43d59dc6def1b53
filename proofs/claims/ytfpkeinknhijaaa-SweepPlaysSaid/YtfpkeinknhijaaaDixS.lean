/- The document's sweeper: Step. -/
import Derived.Test.YtfpkeinknhijaaaDixF
namespace Go.Proofs.Ytfpkeinknhijaaa
set_option linter.unusedVariables false
open Go.RowKit Go.Maps Go.Sort

/-- The lowest number of slots from k on, or -1. -/
def lowI (S : List (Nat × Nat)) (k : Nat) : Int := match nextX S k with | some m => (m : Int) | none => -1
theorem ofX_snoc (S : List (Nat × Nat)) (s : Nat × Nat) (m : Nat) : ofX (S ++ [s]) m = ofX S m ++ (if s.1 = m then [s.2] else []) := by
  rw [ofX_app, ofX_cons]
  split <;> simp [ofX]
theorem low_snoc (S : List (Nat × Nat)) (s : Nat × Nat) (k : Nat) : lowI (S ++ [s]) k = if k ≤ s.1 ∧ (lowI S k < 0 ∨ (s.1 : Int) < lowI S k) then (s.1 : Int) else lowI S k := by
  have ne : ∀ {m}, ofX (S ++ [s]) m ≠ [] → ofX S m ≠ [] ∨ s.1 = m := fun {m} h => by
    rw [ofX_snoc] at h
    by_cases hm : s.1 = m
    · exact .inr hm
    · rw [if_neg hm, List.append_nil] at h
      exact .inl h
  have ns : ofX (S ++ [s]) s.1 ≠ [] := by rw [ofX_snoc, if_pos rfl]; simp
  have nl : ∀ {m}, ofX S m ≠ [] → ofX (S ++ [s]) m ≠ [] := fun {m} h => by rw [ofX_snoc]; simp [h]
  cases h : nextX S k with
  | none =>
    have hl : lowI S k = -1 := by unfold lowI; rw [h]
    have hz := nextX_none h
    rw [hl]
    by_cases hk : k ≤ s.1
    · rw [if_pos ⟨hk, .inl (by decide)⟩]
      have := nextX_eq hk ns (fun m hm hne => by
        rcases ne hne with h1 | h1
        · exact absurd (hz m hm) h1
        · omega)
      unfold lowI
      rw [this]
    · rw [if_neg (fun h => hk h.1)]
      have := nextX_eqn (S := S ++ [s]) (k := k) (fun m hm => by
        rw [ofX_snoc, hz m hm, if_neg (by omega)]
        rfl)
      unfold lowI
      rw [this]
  | some n =>
    have hl : lowI S k = (n : Int) := by unfold lowI; rw [h]
    obtain ⟨h1, h2, h3⟩ := nextX_some h
    rw [hl]
    by_cases hk : k ≤ s.1 ∧ s.1 < n
    · rw [if_pos ⟨hk.1, .inr (by omega)⟩]
      have := nextX_eq hk.1 ns (fun m hm hne => by
        rcases ne hne with h4 | h4
        · have := h3 m hm h4; omega
        · omega)
      unfold lowI
      rw [this]
    · rw [if_neg (fun h => hk ⟨h.1, by omega⟩)]
      have := nextX_eq h1 (nl h2) (fun m hm hne => by
        rcases ne hne with h4 | h4
        · exact h3 m hm h4
        · by_cases h5 : s.1 < n
          · exact absurd ⟨by omega, h5⟩ hk
          · omega)
      unfold lowI
      rw [this]
theorem low_ge (S : List (Nat × Nat)) (k : Nat) : lowI S k = -1 ∨ ∃ m : Nat, lowI S k = (m : Int) ∧ nextX S k = some m := by
  unfold lowI
  cases h : nextX S k with
  | none => exact .inl rfl
  | some m => exact .inr ⟨m, rfl, rfl⟩
theorem low_none {S : List (Nat × Nat)} {k : Nat} (h : lowI S k = -1) : nextX S k = none := by
  cases h1 : nextX S k with
  | none => rfl
  | some m =>
    unfold lowI at h
    rw [h1] at h
    simp at h
theorem there_low {most R : Int} {d : Dx} (h : Iw most R d) (hm : most ≤ 65536) {n : Nat} (i : Nat) : thereX d n i = if i < (ofX d.sl n).length then some (n, i) else (nextX d.sl (n + 1)).map fun k => (k, 0) := by
  unfold thereX
  by_cases h1 : i < (ofX d.sl n).length
  · rw [if_pos h1, if_pos h1]
  · rw [if_neg h1, if_neg h1]
    by_cases h2 : n + 1 < 65536
    · rw [if_pos h2]
    · rw [if_neg h2, nextX_eqn (fun m hmm => ?_)]
      · rfl
      · cases he : ofX d.sl m with
        | nil => rfl
        | cons u r =>
          have hu : u ∈ ofX d.sl m := by rw [he]; exact List.mem_cons_self
          have := h.nlt _ (ofX_mem.1 hu)
          simp only at this
          omega
theorem cut_facts (d : Dx) (n i : Int) : (d.cut n i).1.sl.length ≤ d.sl.length ∧ (d.cut n i).1.all = d.all := by
  unfold Dx.cut
  split
  · split
    · split
      · exact ⟨Nat.le_refl _, rfl⟩
      · split
        · exact ⟨Nat.le_refl _, rfl⟩
        · exact ⟨(cutL_sub _ _ _).length_le, rfl⟩
    · exact ⟨Nat.le_refl _, rfl⟩
  · exact ⟨Nat.le_refl _, rfl⟩
abbrev sdCs (n i rd : Nat) : Array Value := #[.int .i64 (n : Int), .int .i64 (i : Int), .int .u64 (rd : Int)]
abbrev sdV (n i rd : Nat) : Value := .agg (sdCs n i rd)
abbrev zeroSd : Array Value := #[.int .i64 0, .int .i64 0, .int .u64 0]
/-- What Step returns. -/
def StpR (w : World) (P : Nat → Prop) (most : Int) (rd : Nat) (r : Sst) (e : Ending) (w' : World) : Prop :=
  ∃ a', e = .returned (.tuple #[sdV r.n r.i (if r.fin = true then rd + 1 else rd), dixV most r.d a', .int .i64 (r.lk : Int), .int .i64 (r.gn : Int)]) ∧ Dix w' (Nw w w' P) r.d a' ∧ Below w.heap.size w w'
/-- Between two rounds of Step: B is the sweeper's box, B + 1 the index's. -/
structure StpSt (W wr : World) (P : Nat → Prop) (B : Nat) (most : Int) (n i rd : Nat) (d : Dx) (a : Dp) : Prop where
  bs : Blk wr B 75 (sdCs n i rd)
  bx : Blk wr (B + 1) 73 (dixCs most d a)
  dx : Dix wr (Nw W wr P) d a
  only : Only (fun g => g = B ∨ g = B + 1) W wr
theorem StpSt.below {W wr w' : World} {P : Nat → Prop} {B : Nat} {most : Int} {n i rd : Nat} {d : Dx} {a : Dp} (h : StpSt W wr P B most n i rd d a) (hb : Below wr.heap.size wr w') : StpSt W w' P B most n i rd d a :=
  ⟨h.bs.below hb h.bs.lt, h.bx.below hb h.bx.lt, (h.dx.below hb).more (fun g hg => hg.imp (fun h => h) (fun h => ⟨h.1, Nat.lt_of_lt_of_le h.2 hb.size⟩)), h.only.trans (Only.of_below hb (fun _ => False)) (fun g h => h.elim)⟩
theorem StpSt.cells {W wr : World} {P : Nat → Prop} {B : Nat} {most : Int} {n i rd : Nat} {d : Dx} {a : Dp} (h : StpSt W wr P B most n i rd d a) :
    (wr.cell? ⟨B, 0, none⟩ = some (.int .i64 (n : Int)) ∧ wr.cell? ⟨B, 1, none⟩ = some (.int .i64 (i : Int)) ∧ wr.cell? ⟨B, 2, none⟩ = some (.int .u64 (rd : Int))) ∧
    wr.cell? ⟨B + 1, 0, none⟩ = some (.int .i64 most) ∧ wr.cell? ⟨B + 1, 1, none⟩ = some (.slice a.p d.nm.length a.c) ∧ wr.cell? ⟨B + 1, 2, none⟩ = some (.slice a.pA d.all.length a.cA) ∧ wr.cell? ⟨B + 1, 3, none⟩ = some (.slice a.pS d.sl.length a.cS) := by
  have s0 := Blk.cell h.bs 0
  have s1 := Blk.cell h.bs 1
  have s2 := Blk.cell h.bs 2
  have d0 := Blk.cell h.bx 0
  have d1 := Blk.cell h.bx 1
  have d2 := Blk.cell h.bx 2
  have d3 := Blk.cell h.bx 3
  simp only [List.getElem?_toArray, List.getElem?_cons_zero, List.getElem?_cons_succ] at s0 s1 s2 d0 d1 d2 d3
  exact ⟨⟨s0, s1, s2⟩, d0, d1, d2, d3⟩
theorem StpSt.setN {W wr : World} {P : Nat → Prop} {B : Nat} {most : Int} {n i rd : Nat} {d : Dx} {a : Dp} (h : StpSt W wr P B most n i rd d a) (hPB : ∀ g, P g → g < B) (hW : W.heap.size = B + 4) (n' i' : Nat) : StpSt W ((wr.setCell ⟨B, 0, none⟩ (.int .i64 (n' : Int))).setCell ⟨B, 1, none⟩ (.int .i64 (i' : Int))) P B most n' i' rd d a := by
  have ho : Only (fun g => g = B) wr ((wr.setCell ⟨B, 0, none⟩ (.int .i64 (n' : Int))).setCell ⟨B, 1, none⟩ (.int .i64 (i' : Int))) := ((Only.refl (fun g => g = B) wr).setCell1 (.inl rfl) 0 _).setCell1 (.inl rfl) 1 _
  exact ⟨by simpa using Blk.set_ (Blk.set_ h.bs 0 (.int .i64 (n' : Int))) 1 (.int .i64 (i' : Int)), h.bx.only ho (by omega), (h.dx.only ho (fun g hg he => by
    rcases hg with hg | hg
    · have := hPB g hg; omega
    · omega)).more (fun g hg => hg.imp (fun h => h) (fun h => ⟨h.1, Nat.lt_of_lt_of_le h.2 ho.size⟩)), h.only.trans ho (fun g h => .inl (.inl h))⟩
theorem StpSt.setI {W wr : World} {P : Nat → Prop} {B : Nat} {most : Int} {n i rd : Nat} {d : Dx} {a : Dp} (h : StpSt W wr P B most n i rd d a) (hPB : ∀ g, P g → g < B) (hW : W.heap.size = B + 4) (i' : Nat) : StpSt W (wr.setCell ⟨B, 1, none⟩ (.int .i64 (i' : Int))) P B most n i' rd d a := by
  have ho : Only (fun g => g = B) wr (wr.setCell ⟨B, 1, none⟩ (.int .i64 (i' : Int))) := (Only.refl (fun g => g = B) wr).setCell1 (.inl rfl) 1 _
  exact ⟨by simpa using Blk.set_ h.bs 1 (.int .i64 (i' : Int)), h.bx.only ho (by omega), (h.dx.only ho (fun g hg he => by
    rcases hg with hg | hg
    · have := hPB g hg; omega
    · omega)).more (fun g hg => hg.imp (fun h => h) (fun h => ⟨h.1, Nat.lt_of_lt_of_le h.2 ho.size⟩)), h.only.trans ho (fun g h => .inl (.inl h))⟩
theorem StpSt.put {W wr : World} {P : Nat → Prop} {B : Nat} {most : Int} {n i rd : Nat} {d : Dx} {a : Dp} (h : StpSt W wr P B most n i rd d a) (hPB : ∀ g, P g → g < B) (hW : W.heap.size = B + 4) {d2 : Dx} {a2 : Dp} (hd : Dix wr (Nw W wr P) d2 a2) : StpSt W (putX wr (B + 1) most d2 a2) P B most n i rd d2 a2 := by
  have ho := putX_only (w := wr) (R := B + 1) most d2 a2
  exact ⟨h.bs.only ho (by omega), putX_blk h.bx _ _ _, (hd.only ho (fun g hg he => by
    rcases hg with hg | hg
    · have := hPB g hg; omega
    · omega)).more (fun g hg => hg.imp (fun h => h) (fun h => ⟨h.1, Nat.lt_of_lt_of_le h.2 ho.size⟩)), h.only.trans ho (fun g h => .inl (.inr h))⟩
set_option maxHeartbeats 16000000 in
set_option maxRecDepth 100000 in
theorem xstep_any {w : World} {P : Nat → Prop} {d : Dx} {a : Dp} (h : Dix w P d a) (hP : ∀ g, P g → g < w.heap.size) {most R : Int} (hw : Iw most R d) (hm : most ≤ 65536) (hl : d.all.length ≤ 100000) (hls : d.sl.length ≤ 100000) (m n i rd : Nat) (hmm : m ≤ 100000) (hn : n < 65536) (hi : i ≤ 100001) (hrd : rd ≤ 1000000) :
    Calls Try.prog 38 #[sdV n i rd, dixV most d a, .int .i64 (m : Int)] w (StpR w P most rd (swGo m d n i 0 0)) := by
  obtain ⟨W, hW⟩ : ∃ W, (((w.alloc (.cells (sdCs n i rd) 75)).alloc (.cells (dixCs most d a) 73)).alloc (.cells zeroSd 75)).alloc (.cells zeroX 73) = W := ⟨_, rfl⟩
  obtain ⟨B, hB⟩ : ∃ B, w.heap.size = B := ⟨_, rfl⟩
  have hbw : Below w.heap.size w W := by
    rw [← hW]
    exact ((((Below.refl _ _).alloc (Nat.le_refl _) _).alloc (by simp) _).alloc (by simp; omega) _).alloc (by simp; omega) _
  have hbs : Blk W B 75 (sdCs n i rd) := by rw [← hW, ← hB]; exact Blk.alloc (Blk.alloc (Blk.alloc (Blk.new w _ _) _) _) _
  have hbx : Blk W (B + 1) 73 (dixCs most d a) := by
    have := Blk.new (w.alloc (.cells (sdCs n i rd) 75)) 73 (dixCs most d a)
    rw [show (w.alloc (.cells (sdCs n i rd) 75)).heap.size = B + 1 by simp [hB]] at this
    rw [← hW]
    exact Blk.alloc (Blk.alloc this _) _
  have hrs : Blk W (B + 2) 75 zeroSd := by
    have := Blk.new ((w.alloc (.cells (sdCs n i rd) 75)).alloc (.cells (dixCs most d a) 73)) 75 zeroSd
    rw [show ((w.alloc (.cells (sdCs n i rd) 75)).alloc (.cells (dixCs most d a) 73)).heap.size = B + 2 by simp [hB]] at this
    rw [← hW]
    exact Blk.alloc this _
  have hrx : Blk W (B + 3) 73 zeroX := by
    have := Blk.new (((w.alloc (.cells (sdCs n i rd) 75)).alloc (.cells (dixCs most d a) 73)).alloc (.cells zeroSd 75)) 73 zeroX
    rw [show (((w.alloc (.cells (sdCs n i rd) 75)).alloc (.cells (dixCs most d a) 73)).alloc (.cells zeroSd 75)).heap.size = B + 3 by simp [hB]] at this
    rw [← hW]
    exact this
  have hWs : W.heap.size = B + 4 := by rw [← hW, ← hB]; simp
  have hst : StpSt W W P B most n i rd d a := ⟨hbs, hbx, (h.below hbw).more (fun g hg => .inl hg), Only.refl _ _⟩
  obtain ⟨res, hres⟩ : ∃ res, swGo m d n i 0 0 = res := ⟨_, rfl⟩
  rw [hres]
  have HST := Lib.hid hst
  have HRS := Lib.hid hrs
  have HRX := Lib.hid hrx
  have HWS := Lib.hid hWs
  have HBW := Lib.hid hbw
  have HRES := Lib.hid hres
  have HPP := Lib.hid hP
  have HIW := Lib.hid hw
  have HB := Lib.hid hB
  have HL := Lib.hid hl
  have HLS := Lib.hid hls
  -- what is returned in the end
  have HFIN : Hid (∀ (wz : World) (n' i' rd' : Nat) (d' : Dx) (a' : Dp) (lk gn : Nat), Dix wz (Nw W wz P) d' a' → Only (fun g => g = B ∨ g = B + 1) W wz → res.n = n' → res.i = i' → (if res.fin = true then rd + 1 else rd) = rd' → res.d = d' → res.lk = lk → res.gn = gn →
      ∀ we, Only (fun g => g = B + 2 ∨ g = B + 3) wz we → StpR w P most rd res (.returned (.tuple #[sdV n' i' rd', dixV most d' a', .int .i64 (lk : Int), .int .i64 (gn : Int)])) we) := by
    intro wz n' i' rd' d' a' lk gn hd ho e1 e2 e3 e4 e5 e6 we hoe
    subst e1 e2 e3 e4 e5 e6
    have hb := HBW.out
    have hws := HWS.out
    have hbb := HB.out
    refine ⟨a', rfl, (hd.only hoe (fun g hg he => ?_)).more (fun g hg => ?_), (hb.trans ((ho.below (fun g hg => by omega) hb.size)) ).trans (hoe.below (fun g hg => by omega) (by have := ho.size; omega))⟩
    · rcases hg with hg | hg
      · have := HPP.out g hg; omega
      · omega
    · rcases hg with hg | hg
      · exact .inl hg
      · exact .inr ⟨by omega, by have := hoe.size; omega⟩
  clear hbs hbx hrs hrx hst hbw hres hw hWs hP h hl hls hB
  go_enter Try.func38, Try.ntmps38
  go_upto_region 1 with (fail)
  simp only [HB.out]
  have hW2 := hW
  unfold sdCs dixCs zeroSd zeroX at hW2
  try rw [hW2]
  clear hW2
  have HPB : Hid (∀ g, P g → g < B) := fun g hg => by have := HPP.out g hg; have := HB.out; omega
  go_wp2_with fail
  go_loopg [10, 11] m (fun r s10 s11 wr => ∃ (lk gn n' i' : Nat) (d' : Dx) (a' : Dp), r + lk = m ∧ s10 = .int .i64 (lk : Int) ∧ s11 = .int .i64 (gn : Int) ∧ swGo r d' n' i' lk gn = res ∧ StpSt W wr P B most n' i' rd d' a' ∧ Iw most R d' ∧ n' < 65536 ∧ i' ≤ 100001 ∧ gn ≤ lk ∧ d'.all.length ≤ 100000 ∧ d'.sl.length ≤ 100000)
  case atStart => exact ⟨0, 0, n, i, d, a, by omega, rfl, rfl, HRES.out, HST.out, HIW.out, hn, hi, Nat.le_refl _, HL.out, HLS.out⟩
  case round =>
    clear HST HRES HIW HL HLS
    obtain ⟨lk, gn, n', i', d', a', hr, rfl, rfl, hgo, hst, hiw, hp', hi', hgl, hl1, hl2⟩ := hrel
    have HR := Lib.hid hr
    have HGO := Lib.hid hgo
    have HST := Lib.hid hst
    have HIW := Lib.hid hiw
    have HL1 := Lib.hid hl1
    have HL2 := Lib.hid hl2
    have hlm : lk ≤ m := by omega
    obtain ⟨⟨s0, s1, s2⟩, d0, d1, d2, d3⟩ := hst.cells
    clear hr hgo hst hiw hl1 hl2
    obtain ⟨M, hM⟩ : ∃ M, d'.sl.length = M := ⟨_, rfl⟩
    have HM := Lib.hid hM
    rw [hM] at d3
    have hMl : M ≤ 100000 := by rw [← hM]; exact HL2.out
    clear hM
    by_cases hlt : lk < m
    · obtain ⟨f, hf⟩ : ∃ f, gk = f + 1 := ⟨gk - 1, by have := HR.out; omega⟩
      have HF := Lib.hid hf
      have hgo := HGO.out
      rw [hf] at hgo
      obtain ⟨T, hT⟩ : ∃ T, (ofX d'.sl n').length = T := ⟨_, rfl⟩
      have HT := Lib.hid hT
      have HTL : Hid (thereX d' n' i' = if i' < T then some (n', i') else (nextX d'.sl (n' + 1)).map fun k => (k, 0)) := by
        have := there_low HIW.out hm (n := n') i'
        rw [hT] at this
        exact this
      have hTl : T ≤ 100000 := by rw [← hT]; have := ofX_len d'.sl n'; have := HL2.out; omega
      have HSTd : Hid (StpSt W wr.drew P B most n' i' rd d' a') := HST.out.below (Below.refl _ _).drew
      have hOF := xof_any HSTd.out.dx most (by have := HL2.out; omega) (n' : Int)
      unfold dixV dixCs at hOF
      rw [HM.out, ofI_nat] at hOF
      have HOF := Lib.hid hOF
      have HGO2 := Lib.hid hgo
      clear hgo hf hT hOF HGO
      go_upto_region 3 with (fail)
      obtain ⟨hb, hhb⟩ : ∃ hb, decide (T ≤ i') = hb := ⟨_, rfl⟩
      have HHB := Lib.hid hhb
      have D0 : wr.drew.cell? ⟨B + 1, 0, none⟩ = _ := d0
      have D1 : wr.drew.cell? ⟨B + 1, 1, none⟩ = _ := d1
      have D2 : wr.drew.cell? ⟨B + 1, 2, none⟩ = _ := d2
      have D3 : wr.drew.cell? ⟨B + 1, 3, none⟩ = _ := d3
      have S0 : wr.drew.cell? ⟨B, 0, none⟩ = _ := s0
      have S1 : wr.drew.cell? ⟨B, 1, none⟩ = _ := s1
      go_cut [28] from 18 to 87 (fun s28 wx => s28 = .bool hb ∧ StpSt W wx P B most n' i' rd d' a')
      case first =>
        go_region_law (go_simp; go_at_call 76; refine HOF.out.mono ?_; rintro e w1 ⟨v1, rfl, hv1, b1⟩; rw [List.length_map, HT.out] at hv1; obtain ⟨p1, k1, rfl⟩ := owns_form hv1; have ST1 := Lib.hid (HSTd.out.below b1); have T1 := ST1.out.cells.1.2.1; clear hv1 b1)
        all_goals
          go_wp2_with fail
          go_meet
          exact ⟨by first | rfl | rw [hhb], ST1.out⟩
      case rest =>
      obtain ⟨rfl, hst1⟩ := hcut
      have ST1 := Lib.hid hst1
      clear s0 s1 s2 d0 d1 d2 d3 D0 D1 D2 D3 S0 S1 HOF hst1 hhb
      obtain ⟨⟨s0, s1, s2⟩, d0, d1, d2, d3⟩ := ST1.out.cells
      rw [HM.out] at d3
      go_upto_if 28 with (fail)
      go_cut [12, 13, 14] from 18 to 87 (fun s12 s13 s14 wx => ∃ (a1 b1 : Nat), thereX d' n' i' = some (a1, b1) ∧ StpSt W wx P B most a1 b1 rd d' a')
      case first =>
        by_cases hit : i' < T
        · have hn1 : hb = false := by rw [← HHB.out]; exact decide_eq_false (by omega)
          subst hn1
          go_wp2_with fail
          go_meet
          exact ⟨n', i', by rw [HTL.out, if_pos hit], ST1.out⟩
        · have hn1 : hb = true := by rw [← HHB.out]; exact decide_eq_true (by omega)
          subst hn1
          have HNX : Hid (thereX d' n' i' = (nextX d'.sl (n' + 1)).map fun k => (k, 0)) := by unfold Hid; rw [HTL.out, if_neg hit]
          clear hit HTL
          go_wp2_with fail
          go_loopg [12, 13] M (fun r s12 s13 wy => ∃ j : Nat, r + j = M ∧ s12 = .int .i64 (lowI (d'.sl.take j) (n' + 1)) ∧ s13 = .int .i64 (j : Int) ∧ wc = wy)
          case atStart => exact ⟨0, by omega, rfl, rfl, rfl⟩
          case round =>
            obtain ⟨j, hjr, rfl, rfl, rfl⟩ := hrel
            have HJ := Lib.hid hjr
            have hjM : j ≤ M := by omega
            clear hjr
            by_cases hj : j < M
            · have HJL := Lib.hid hj
              obtain ⟨y, hy⟩ : ∃ y, d'.sl[j]? = some y := ⟨_, List.getElem?_eq_getElem (by rw [HM.out]; exact hj)⟩
              obtain ⟨g, hp, hg, -, -, hcell⟩ := ST1.out.dx.slots.at_ (by rw [HM.out]; omega)
              have y0 := hcell _ _ (sl_get hy).1
              have HLOW : Hid (lowI (d'.sl.take (j + 1)) (n' + 1) = if n' + 1 ≤ y.1 ∧ (lowI (d'.sl.take j) (n' + 1) < 0 ∨ (y.1 : Int) < lowI (d'.sl.take j) (n' + 1)) then (y.1 : Int) else lowI (d'.sl.take j) (n' + 1)) := by
                unfold Hid
                rw [List.take_add_one, hy]
                exact low_snoc _ _ _
              obtain ⟨lo, hlo⟩ : ∃ lo, lowI (d'.sl.take j) (n' + 1) = lo := ⟨_, rfl⟩
              rw [hlo] at HLOW ⊢
              rw [hp] at d3
              obtain ⟨y1, y2⟩ := y
              simp only at y0 HLOW
              clear hcell hy hg hp hlo
              by_cases c1 : (y1 : Int) > (n' : Int)
              · have C1 : Hid (n' + 1 ≤ y1) := by unfold Hid; omega
                by_cases c2 : lo < 0
                · have C2 := Lib.hid c2
                  go_wp2_with fail
                  go_roundg (M - (j + 1))
                  case measure => have := HJ.out; have := HJL.out; omega
                  case rel => exact ⟨j + 1, by have := HJL.out; omega, by rw [HLOW.out, if_pos ⟨C1.out, .inl C2.out⟩], by go_num, rfl⟩
                · have C2 := Lib.hid c2
                  by_cases c3 : (y1 : Int) < lo
                  · have C3 := Lib.hid c3
                    go_wp2_with fail
                    go_roundg (M - (j + 1))
                    case measure => have := HJ.out; have := HJL.out; omega
                    case rel => exact ⟨j + 1, by have := HJL.out; omega, by rw [HLOW.out, if_pos ⟨C1.out, .inr C3.out⟩], by go_num, rfl⟩
                  · have C3 := Lib.hid c3
                    go_wp2_with fail
                    go_roundg (M - (j + 1))
                    case measure => have := HJ.out; have := HJL.out; omega
                    case rel => exact ⟨j + 1, by have := HJL.out; omega, by rw [HLOW.out, if_neg (fun h => h.2.elim (fun h => by have := C2.out; omega) (fun h => by have := C3.out; omega))], by go_num, rfl⟩
              · have C1 : Hid (¬ n' + 1 ≤ y1) := by unfold Hid; omega
                go_wp2_with fail
                go_roundg (M - (j + 1))
                case measure => have := HJ.out; have := HJL.out; omega
                case rel => exact ⟨j + 1, by have := HJL.out; omega, by rw [HLOW.out, if_neg (fun h => C1.out h.1)], by go_num, rfl⟩
            · obtain rfl : j = M := by omega
              have HTA : Hid (d'.sl.take j = d'.sl) := List.take_of_length_le (by rw [HM.out]; exact Nat.le_refl _)
              rw [HTA.out]
              rcases low_ge d'.sl (n' + 1) with h1 | ⟨k, h1, h2⟩
              · rw [h1]
                have hth : thereX d' n' i' = none := by rw [HNX.out, low_none h1]; rfl
                have HE : Hid (res = ⟨d', 0, 0, true, lk, gn⟩) := by
                  have := HGO2.out
                  rw [swGo_end hth] at this
                  exact this.symm
                clear h1 hth HGO2 HNX
                have hrs : Blk wc (B + 1 + 1) 75 zeroSd := Blk.only HRS.out ST1.out.only (by omega)
                have hrx : Blk wc (B + 1 + 1 + 1) 73 zeroX := Blk.only HRX.out ST1.out.only (by omega)
                have z0 := Blk.cell hrs 0
                have Z0 : wc.drew.cell? ⟨B + 2, 0, none⟩ = _ := Blk.cell hrs 0
                have fz0 := Blk.frozen hrs 0
                have Fz0 : wc.drew.frozen? ⟨B + 2, 0, none⟩ = false := Blk.frozen hrs 0
                have z1 := Blk.cell hrs 1
                have Z1 : wc.drew.cell? ⟨B + 2, 1, none⟩ = _ := Blk.cell hrs 1
                have fz1 := Blk.frozen hrs 1
                have Fz1 : wc.drew.frozen? ⟨B + 2, 1, none⟩ = false := Blk.frozen hrs 1
                have z2 := Blk.cell hrs 2
                have Z2 : wc.drew.cell? ⟨B + 2, 2, none⟩ = _ := Blk.cell hrs 2
                have fz2 := Blk.frozen hrs 2
                have Fz2 : wc.drew.frozen? ⟨B + 2, 2, none⟩ = false := Blk.frozen hrs 2
                have y0 := Blk.cell hrx 0
                have Y0 : wc.drew.cell? ⟨B + 3, 0, none⟩ = _ := Blk.cell hrx 0
                have fy0 := Blk.frozen hrx 0
                have Fy0 : wc.drew.frozen? ⟨B + 3, 0, none⟩ = false := Blk.frozen hrx 0
                have y1 := Blk.cell hrx 1
                have Y1 : wc.drew.cell? ⟨B + 3, 1, none⟩ = _ := Blk.cell hrx 1
                have fy1 := Blk.frozen hrx 1
                have Fy1 : wc.drew.frozen? ⟨B + 3, 1, none⟩ = false := Blk.frozen hrx 1
                have y2 := Blk.cell hrx 2
                have Y2 : wc.drew.cell? ⟨B + 3, 2, none⟩ = _ := Blk.cell hrx 2
                have fy2 := Blk.frozen hrx 2
                have Fy2 : wc.drew.frozen? ⟨B + 3, 2, none⟩ = false := Blk.frozen hrx 2
                have y3 := Blk.cell hrx 3
                have Y3 : wc.drew.cell? ⟨B + 3, 3, none⟩ = _ := Blk.cell hrx 3
                have fy3 := Blk.frozen hrx 3
                have Fy3 : wc.drew.frozen? ⟨B + 3, 3, none⟩ = false := Blk.frozen hrx 3
                have S0 : wc.drew.cell? ⟨B, 0, none⟩ = _ := s0
                have S1 : wc.drew.cell? ⟨B, 1, none⟩ = _ := s1
                have S2 : wc.drew.cell? ⟨B, 2, none⟩ = _ := s2
                have D0 : wc.drew.cell? ⟨B + 1, 0, none⟩ = _ := d0
                have D1 : wc.drew.cell? ⟨B + 1, 1, none⟩ = _ := d1
                have D2 : wc.drew.cell? ⟨B + 1, 2, none⟩ = _ := d2
                have D3 : wc.drew.cell? ⟨B + 1, 3, none⟩ = _ := d3
                simp only [List.getElem?_toArray, List.getElem?_cons_zero, List.getElem?_cons_succ] at z0 z1 z2 y0 y1 y2 y3 Z0 Z1 Z2 Y0 Y1 Y2 Y3
                go_upto_region 12 with (fail)
                go_region
                repeat (first | go_values | go_skip | go_guarded | go_step | go_upon)
                have ho1 : Only (fun g => g = B + 2 ∨ g = B + 3) wc (((wc.setCell ⟨B + 1 + 1, 0, none⟩ (.int .i64 0)).setCell ⟨B + 1 + 1, 1, none⟩ (.int .i64 0)).setCell ⟨B + 1 + 1, 2, none⟩ (.int .u64 ((rd : Int) + 1))) := (((Only.refl (fun g => g = B + 2 ∨ g = B + 3) wc).setCell1 (.inl (.inl rfl)) 0 _).setCell1 (.inl (.inl rfl)) 1 _).setCell1 (.inl (.inl rfl)) 2 _
                have hV := Blk.set_ (Blk.set_ (Blk.set_ hrs 0 (.int .i64 0)) 1 (.int .i64 0)) 2 (.int .u64 ((rd : Int) + 1))
                have hX := Blk.far (p := ⟨B + 1 + 1, 2, none⟩) (Blk.far (p := ⟨B + 1 + 1, 1, none⟩) (Blk.far (p := ⟨B + 1 + 1, 0, none⟩) hrx (by show B + 1 + 1 + 1 ≠ B + 1 + 1; omega) (.int .i64 0)) (by show B + 1 + 1 + 1 ≠ B + 1 + 1; omega) (.int .i64 0)) (by show B + 1 + 1 + 1 ≠ B + 1 + 1; omega) (.int .u64 ((rd : Int) + 1))
                have hz := putX_blk hX most d' a'
                have ho2 := putX_only (w := (((wc.setCell ⟨B + 1 + 1, 0, none⟩ (.int .i64 0)).setCell ⟨B + 1 + 1, 1, none⟩ (.int .i64 0)).setCell ⟨B + 1 + 1, 2, none⟩ (.int .u64 ((rd : Int) + 1)))) (R := B + 1 + 1 + 1) most d' a'
                have hs := Blk.only hV ho2 (by omega)
                have ho := (ho1.trans ho2 (fun g h => .inl (.inr h))).drew
                have v0 := Blk.cell hs 0
                have v1 := Blk.cell hs 1
                have v2 := Blk.cell hs 2
                have x0 := Blk.cell hz 0
                have x1 := Blk.cell hz 1
                have x2 := Blk.cell hz 2
                have x3 := Blk.cell hz 3
                simp only [putX, List.setIfInBounds_toArray, List.set_cons_zero, List.set_cons_succ, List.getElem?_toArray, List.getElem?_cons_zero, List.getElem?_cons_succ] at v0 v1 v2 x0 x1 x2 x3 ho
                rw [HM.out] at v0 v1 v2 x0 x1 x2 x3 ho
                have hml := HM.out
                exact bodyPost_ret (v := .tuple #[sdV 0 0 (rd + 1), dixV most d' a', .int .i64 (lk : Int), .int .i64 (gn : Int)]) (by simp [results, Try.results38, go_sem, v0, v1, v2, x0, x1, x2, x3, hml]) rfl (HFIN.out wc 0 0 (rd + 1) d' a' lk gn ST1.out.dx ST1.out.only (by rw [HE.out]) (by rw [HE.out]) (by rw [HE.out]; rfl) (by rw [HE.out]) (by rw [HE.out]) (by rw [HE.out]) _ ho)
              · rw [h1]
                have HTH : Hid (thereX d' n' i' = some (k, 0)) := by unfold Hid; rw [HNX.out, h2]; rfl
                have g0 := Blk.frozen ST1.out.bs 0
                have g1 := Blk.frozen ST1.out.bs 1
                clear h1 h2 HNX
                go_wp2_with fail
                go_meet
                exact ⟨k, 0, HTH.out, ST1.out.setN HPB.out HWS.out k 0⟩
      case rest =>
        obtain ⟨a1, b1, hth, hst2⟩ := hcut
        obtain ⟨ha1, hb1⟩ := there_lt HIW.out hm hp' hth
        have hb1l : b1 ≤ 100000 := by have := ofX_len d'.sl a1; have := HL2.out; omega
        obtain ⟨⟨dn, cb, er⟩, hx⟩ : ∃ r, d'.cut a1 b1 = r := ⟨_, rfl⟩
        have hgo := HGO2.out
        have hgo2 : cb = true → swGo f dn a1 b1 (lk + 1) (gn + 1) = res := fun h => by rw [← hgo, swGo_cut hth (by rw [hx]; exact h), hx]
        have hgo3 : cb = false → dn = d' ∧ swGo f d' a1 (b1 + 1) (lk + 1) gn = res := fun h => by
          refine ⟨?_, by rw [← hgo, swGo_next hth (by rw [hx]; exact h)]⟩
          have := cut_same (d := d') (n := a1) (i := b1) (by rw [hx]; exact h)
          rw [hx] at this
          exact this
        have hiw2 := HIW.out.cut (a1 : Int) (b1 : Int)
        have hcf := cut_facts d' (a1 : Int) (b1 : Int)
        rw [hx] at hiw2 hcf
        have HIW2 := Lib.hid hiw2
        have HL3 : Hid (dn.all.length ≤ 100000) := by unfold Hid; rw [hcf.2]; exact HL1.out
        have HL4 : Hid (dn.sl.length ≤ 100000) := Nat.le_trans hcf.1 HL2.out
        have HGO3 := Lib.hid hgo2
        have HGO4 := Lib.hid hgo3
        have ST2 := Lib.hid hst2
        have hCUT := xcut_any hst2.dx (fun g hg => by
          rcases hg with hg | hg
          · have := HPB.out g hg; have := hst2.only.size; have := HWS.out; omega
          · exact hg.2) most (by have := HL2.out; omega) (by have := HL1.out; omega) (a1 : Int) (b1 : Int)
        unfold dixV dixCs at hCUT
        rw [hx, HM.out] at hCUT
        have HCUT := Lib.hid hCUT
        obtain ⟨⟨s0, s1, s2⟩, d0, d1, d2, d3⟩ := hst2.cells
        rw [HM.out] at d3
        clear hth hgo hgo2 hgo3 hst2 hx hcf hiw2 hCUT hb1 HGO2 HTL
        go_upto_region 16 with (go_at_call 77; refine HCUT.out.mono ?_; rintro e w3 ⟨a2, rfl, hd3, b3⟩)
        have hal : Below w3.heap.size w3 (w3.alloc (.cells (dixCs most dn a2) 73)) := (Below.refl _ _).alloc (Nat.le_refl _) _
        have HB9 : Hid (Blk (w3.alloc (.cells (dixCs most dn a2) 73)) w3.heap.size 73 (dixCs most dn a2)) := Blk.new _ _ _
        have ST9 : Hid (StpSt W (w3.alloc (.cells (dixCs most dn a2) 73)) P B most a1 b1 rd d' a') := (ST2.out.below b3).below hal
        have HD9 : Hid (Dix (w3.alloc (.cells (dixCs most dn a2) 73)) (Nw W (w3.alloc (.cells (dixCs most dn a2) 73)) P) dn a2) := (hd3.below hal).more (fun g hg => by
          have h1 := ST2.out.only.size
          have h2 := b3.size
          have h3 := hal.size
          rcases hg with (hg | hg) | hg
          · exact .inl hg
          · exact .inr ⟨hg.1, by omega⟩
          · exact .inr ⟨by omega, by omega⟩)
        have HNB : Hid (B + 1 < w3.heap.size) := by
          have h1 := ST2.out.only.size
          have h2 := b3.size
          have := HWS.out
          unfold Hid
          omega
        simp only [dixCs] at HB9 ST9 HD9
        obtain ⟨B9, hB9⟩ : ∃ B9, w3.heap.size = B9 := ⟨_, rfl⟩
        clear s0 s1 s2 d0 d1 d2 d3 hd3 b3 hal HCUT
        rw [hB9] at HB9 HNB
        simp only [hB9]
        clear hB9
        generalize w3.alloc (.cells #[.int .i64 most, .slice a2.p dn.nm.length a2.c, .slice a2.pA dn.all.length a2.cA, .slice a2.pS dn.sl.length a2.cS] 73) = W9 at *
        have hb9 := HB9.out
        have hne : ¬ B9 = B + 1 := by have := HNB.out; omega
        obtain ⟨⟨s0, s1, s2⟩, d0, d1, d2, d3⟩ := ST9.out.cells
        have f0 := Blk.frozen ST9.out.bx 0
        have f1 := Blk.frozen ST9.out.bx 1
        have f2 := Blk.frozen ST9.out.bx 2
        have f3 := Blk.frozen ST9.out.bx 3
        have z1 := Blk.frozen ST9.out.bs 1
        have y0 := Blk.cell hb9 0
        have y1 := Blk.cell hb9 1
        have y2 := Blk.cell hb9 2
        have y3 := Blk.cell hb9 3
        simp only [List.getElem?_toArray, List.getElem?_cons_zero, List.getElem?_cons_succ] at y0 y1 y2 y3
        have ST10 := Lib.hid (ST9.out.put HPB.out HWS.out HD9.out)
        clear hb9
        cases cb with
        | true =>
          have HG := Lib.hid (HGO3.out rfl)
          clear HGO3 HGO4
          go_wp2_with fail
          go_roundg f
          case measure => have := HF.out; omega
          case rel => exact ⟨lk + 1, gn + 1, a1, b1, dn, a2, by have := HF.out; have := HR.out; omega, by go_num, by go_num, HG.out, ST10.out, HIW2.out, ha1, by omega, by omega, HL3.out, HL4.out⟩
        | false =>
          obtain ⟨hdn, hg⟩ := HGO4.out rfl
          rw [← hdn] at hg
          have HG := Lib.hid hg
          clear HGO3 HGO4 hg hdn
          go_wp2_with fail
          go_roundg f
          case measure => have := HF.out; omega
          case rel => exact ⟨lk + 1, gn, a1, b1 + 1, dn, a2, by have := HF.out; have := HR.out; omega, by go_num, rfl, HG.out, ST10.out.setI HPB.out HWS.out (b1 + 1), HIW2.out, ha1, by omega, by omega, HL3.out, HL4.out⟩
    · obtain rfl : lk = m := by omega
      have hg0 : gk = 0 := by have := HR.out; omega
      have HE : Hid (res = ⟨d', n', i', false, lk, gn⟩) := by
        have := HGO.out
        rw [hg0] at this
        exact this.symm
      clear hg0 HGO
      have hrs : Blk wr (B + 1 + 1) 75 zeroSd := Blk.only HRS.out HST.out.only (by omega)
      have hrx : Blk wr (B + 1 + 1 + 1) 73 zeroX := Blk.only HRX.out HST.out.only (by omega)
      have z0 := Blk.cell hrs 0
      have Z0 : wr.drew.cell? ⟨B + 2, 0, none⟩ = _ := Blk.cell hrs 0
      have fz0 := Blk.frozen hrs 0
      have Fz0 : wr.drew.frozen? ⟨B + 2, 0, none⟩ = false := Blk.frozen hrs 0
      have z1 := Blk.cell hrs 1
      have Z1 : wr.drew.cell? ⟨B + 2, 1, none⟩ = _ := Blk.cell hrs 1
      have fz1 := Blk.frozen hrs 1
      have Fz1 : wr.drew.frozen? ⟨B + 2, 1, none⟩ = false := Blk.frozen hrs 1
      have z2 := Blk.cell hrs 2
      have Z2 : wr.drew.cell? ⟨B + 2, 2, none⟩ = _ := Blk.cell hrs 2
      have fz2 := Blk.frozen hrs 2
      have Fz2 : wr.drew.frozen? ⟨B + 2, 2, none⟩ = false := Blk.frozen hrs 2
      have y0 := Blk.cell hrx 0
      have Y0 : wr.drew.cell? ⟨B + 3, 0, none⟩ = _ := Blk.cell hrx 0
      have fy0 := Blk.frozen hrx 0
      have Fy0 : wr.drew.frozen? ⟨B + 3, 0, none⟩ = false := Blk.frozen hrx 0
      have y1 := Blk.cell hrx 1
      have Y1 : wr.drew.cell? ⟨B + 3, 1, none⟩ = _ := Blk.cell hrx 1
      have fy1 := Blk.frozen hrx 1
      have Fy1 : wr.drew.frozen? ⟨B + 3, 1, none⟩ = false := Blk.frozen hrx 1
      have y2 := Blk.cell hrx 2
      have Y2 : wr.drew.cell? ⟨B + 3, 2, none⟩ = _ := Blk.cell hrx 2
      have fy2 := Blk.frozen hrx 2
      have Fy2 : wr.drew.frozen? ⟨B + 3, 2, none⟩ = false := Blk.frozen hrx 2
      have y3 := Blk.cell hrx 3
      have Y3 : wr.drew.cell? ⟨B + 3, 3, none⟩ = _ := Blk.cell hrx 3
      have fy3 := Blk.frozen hrx 3
      have Fy3 : wr.drew.frozen? ⟨B + 3, 3, none⟩ = false := Blk.frozen hrx 3
      have S0 : wr.drew.cell? ⟨B, 0, none⟩ = _ := s0
      have S1 : wr.drew.cell? ⟨B, 1, none⟩ = _ := s1
      have S2 : wr.drew.cell? ⟨B, 2, none⟩ = _ := s2
      have D0 : wr.drew.cell? ⟨B + 1, 0, none⟩ = _ := d0
      have D1 : wr.drew.cell? ⟨B + 1, 1, none⟩ = _ := d1
      have D2 : wr.drew.cell? ⟨B + 1, 2, none⟩ = _ := d2
      have D3 : wr.drew.cell? ⟨B + 1, 3, none⟩ = _ := d3
      simp only [List.getElem?_toArray, List.getElem?_cons_zero, List.getElem?_cons_succ] at z0 z1 z2 y0 y1 y2 y3 Z0 Z1 Z2 Y0 Y1 Y2 Y3
      go_upto_region 20 with (fail)
      go_region
      repeat (first | go_values | go_skip | go_guarded | go_step | go_upon)
      have ho1 : Only (fun g => g = B + 2 ∨ g = B + 3) wr (((wr.setCell ⟨B + 1 + 1, 0, none⟩ (.int .i64 (n' : Int))).setCell ⟨B + 1 + 1, 1, none⟩ (.int .i64 (i' : Int))).setCell ⟨B + 1 + 1, 2, none⟩ (.int .u64 (rd : Int))) := (((Only.refl (fun g => g = B + 2 ∨ g = B + 3) wr).setCell1 (.inl (.inl rfl)) 0 _).setCell1 (.inl (.inl rfl)) 1 _).setCell1 (.inl (.inl rfl)) 2 _
      have hV := Blk.set_ (Blk.set_ (Blk.set_ hrs 0 (.int .i64 (n' : Int))) 1 (.int .i64 (i' : Int))) 2 (.int .u64 (rd : Int))
      have hX := Blk.far (p := ⟨B + 1 + 1, 2, none⟩) (Blk.far (p := ⟨B + 1 + 1, 1, none⟩) (Blk.far (p := ⟨B + 1 + 1, 0, none⟩) hrx (by show B + 1 + 1 + 1 ≠ B + 1 + 1; omega) (.int .i64 (n' : Int))) (by show B + 1 + 1 + 1 ≠ B + 1 + 1; omega) (.int .i64 (i' : Int))) (by show B + 1 + 1 + 1 ≠ B + 1 + 1; omega) (.int .u64 (rd : Int))
      have hz := putX_blk hX most d' a'
      have ho2 := putX_only (w := (((wr.setCell ⟨B + 1 + 1, 0, none⟩ (.int .i64 (n' : Int))).setCell ⟨B + 1 + 1, 1, none⟩ (.int .i64 (i' : Int))).setCell ⟨B + 1 + 1, 2, none⟩ (.int .u64 (rd : Int)))) (R := B + 1 + 1 + 1) most d' a'
      have hs := Blk.only hV ho2 (by omega)
      have ho := (ho1.trans ho2 (fun g h => .inl (.inr h))).drew
      have v0 := Blk.cell hs 0
      have v1 := Blk.cell hs 1
      have v2 := Blk.cell hs 2
      have x0 := Blk.cell hz 0
      have x1 := Blk.cell hz 1
      have x2 := Blk.cell hz 2
      have x3 := Blk.cell hz 3
      simp only [putX, List.setIfInBounds_toArray, List.set_cons_zero, List.set_cons_succ, List.getElem?_toArray, List.getElem?_cons_zero, List.getElem?_cons_succ] at v0 v1 v2 x0 x1 x2 x3 ho
      rw [HM.out] at v0 v1 v2 x0 x1 x2 x3 ho
      have hml := HM.out
      exact bodyPost_ret (v := .tuple #[sdV n' i' rd, dixV most d' a', .int .i64 (lk : Int), .int .i64 (gn : Int)]) (by simp [results, Try.results38, go_sem, v0, v1, v2, x0, x1, x2, x3, hml]) rfl (HFIN.out wr n' i' rd d' a' lk gn HST.out.dx HST.out.only (by rw [HE.out]) (by rw [HE.out]) (by rw [HE.out]; rfl) (by rw [HE.out]) (by rw [HE.out]) (by rw [HE.out]) _ ho)
end Go.Proofs.Ytfpkeinknhijaaa
