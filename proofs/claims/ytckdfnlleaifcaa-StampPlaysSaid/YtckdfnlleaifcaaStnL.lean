/- The law's step: Restore of List. -/
import Derived.Test.YtckdfnlleaifcaaStnK
namespace Go.Proofs.Ytckdfnlleaifcaa
set_option linter.unusedVariables false
open Go.RowKit Go.Maps Go.Sort

theorem rwCells_rwE : ∀ E : List Ev, rwCells (rwE E) = evCells E
  | [] => rfl
  | e :: E => by
    have ih := rwCells_rwE E
    unfold rwE at ih ⊢
    rw [List.map_cons]
    show Value.int .i64 (e.x.tag : Int) :: Value.int .u64 (e.x.p.hard : Int) :: e.v :: rwCells _ = _
    rw [ih]
    rfl
/-- The blocks of the soft purges. -/
def EvB (E : List Ev) (z : Nat) : Prop := ∃ e ∈ E, e.v.ownBlock = some z
/-- Stamps of soft purges that may be spoilt. -/
def Spl (w : World) (E : List Ev) : Prop := ∀ e ∈ E, ∀ k, k < e.x.p.soft.length → ∃ blk off cap x, e.v = .slice (some ⟨blk, off, none⟩) e.x.p.soft.length cap ∧ w.cell? ⟨blk, off + k * 2, none⟩ = some (.int .u64 x) ∧ w.frozen? ⟨blk, off + k * 2, none⟩ = false ∧ blk < w.heap.size
theorem Spl.of_own {w : World} {B : Nat} {E : List Ev} (h : EvOwn w B E) : Spl w E := by
  intro e he k hk
  have ho := h e he
  rcases ho.2 with ⟨_, h0⟩ | ⟨g, cap, cur, hv, _, hg, _, hcap, _, ht⟩
  · omega
  · obtain ⟨y, hy⟩ : ∃ y, e.x.p.soft[k]? = some y := ⟨e.x.p.soft[k], List.getElem?_eq_getElem hk⟩
    obtain ⟨d0, _⟩ := softCells_get hy
    have hlt := (Array.getElem?_eq_some_iff.1 hg).1
    refine ⟨g, 0, cap, (y.st : Int), hv, ?_, by simp [World.frozen?, hg], hlt⟩
    rw [cell_of_row w g (0 + k * 2) cur _ (0, 0) hg]
    rw [← ht, List.getElem?_take] at d0
    split at d0
    · simpa using d0
    · cases d0
theorem Spl.below {w w' : World} {E : List Ev} (h : Spl w E) (hb : Below w.heap.size w w') : Spl w' E := by
  intro e he k hk
  obtain ⟨blk, off, cap, x, h1, h2, h3, h4⟩ := h e he k hk
  refine ⟨blk, off, cap, x, h1, (hb.cell (p := ⟨blk, off + k * 2, none⟩) h4).trans h2, ?_, Nat.lt_of_lt_of_le h4 hb.size⟩
  rw [World.frozen?_of_block (w := w) (a := ⟨blk, off + k * 2, none⟩) (hb.block blk h4)]
  exact h3
theorem Spl.set {w : World} {E : List Ev} (h : Spl w E) (p : Addr) (y : Int) : Spl (w.setCell p (.int .u64 y)) E := by
  intro e he k hk
  obtain ⟨blk, off, cap, x, h1, h2, h3, h4⟩ := h e he k hk
  by_cases hp : p = ⟨blk, off + k * 2, none⟩
  · subst hp
    exact ⟨blk, off, cap, y, h1, World.cell?_setCell_same' w _ _ (by rw [h2]; rfl), by rw [World.frozen?_setCell]; exact h3, by simpa using h4⟩
  · exact ⟨blk, off, cap, x, h1, by rw [World.cell?_setCell_other (h := hp)]; exact h2, by rw [World.frozen?_setCell]; exact h3, by simpa using h4⟩
theorem Only.cell' {S : Nat → Prop} {w w' : World} (h : Only S w w') {p : Addr} (hp : p.block < w.heap.size) (hn : ¬ S p.block) : w'.cell? p = w.cell? p := World.cell?_of_block (h.block p.block hp hn)
set_option maxHeartbeats 8000000 in
set_option maxRecDepth 100000 in
theorem step_restore {w : World} {g gr now last n n5 c : Nat} {q : Option Addr} {E : List Ev} {d : List Tg} {O : Nat → Prop} (h : Syn w g gr now last n q n5 c E d O) (hn : n ≤ 98000) (t : Int) (a : Nat) (ha : a ≤ 18446744073709551615) :
    Calls Try.prog 31 #[.pointer (some ⟨g, 0, none⟩), mV gr now last (.slice q n5 c), .agg #[.int .i64 5, .int .i64 t, .int .u64 (a : Int)]] w (StepP w O gr last n (.slice q n5 c) E) := by
  obtain ⟨hx, hb⟩ := Sx.start w gr now last (.slice q n5 c) 5 t a
  have SX := Lib.hid hx
  have HB := Lib.hid hb
  have HS := Lib.hid h
  have S0 := Lib.hid (h.below hb)
  have hOlt := Lib.hid (fun x (hx : O x) => h.st.lt hx)
  have hwl := hx.br.lt
  clear hx hb h
  have HL := Lib.hid (list_any S0.out.st (by omega : n ≤ 100000))
  have hlok := HS.out.st.lok
  have hnb := HS.out.st.nb
  have hadv := HS.out.st.adv
  obtain ⟨W, hW⟩ : ∃ W, W = (((w.alloc (.cells #[.int .u64 (gr : Int), .int .u64 (now : Int), .int .u64 (last : Int), .slice q n5 c] 57)).alloc (.cells #[.int .i64 5, .int .i64 t, .int .u64 (a : Int)] 34)).alloc (.cells #[.int .u64 0, .int .u64 0, .int .u64 0, .slice none 0 0] 57)) := ⟨_, rfl⟩
  rw [← hW] at SX HB S0 HL hwl
  have HW := Lib.hid hW
  clear hW
  go_enter Try.func31, Try.ntmps31
  go_wp2_with fail
  rw [← HW.out]
  refine HL.out.mono ?_
  rintro e w1 ⟨v1, B1, E1, rfl, hu1, ow1, eo1, dj1, hB1, s1, o1⟩
  obtain ⟨q1, c1, rfl⟩ := own_form ow1
  obtain ⟨n6, hn6⟩ : ∃ n6, n6 = E1.length := ⟨_, rfl⟩
  have hl6 : n6 = d.length := by rw [hn6, ← hu1]; unfold unE; rw [List.length_map]
  have hsoft : ∀ e ∈ E1, e.x ∈ d := fun e he => by rw [← hu1]; exact List.mem_map.2 ⟨e, he, rfl⟩
  have hraw : RawAt w1 (.slice q1 (rwE E1).length c1) (rwE E1) := by
    have hl : (rwE E1).length = E1.length := by unfold rwE; rw [List.length_map]
    rw [hl]
    refine ⟨by rw [hl, rwCells_rwE]; exact RowAt.of_own ow1, fun r hr => ?_, ⟨by rw [hl, ← hn6, hl6]; omega, fun r hr => ?_⟩, fun r hr => ?_⟩
    · obtain ⟨e, he, rfl⟩ := List.mem_map.1 hr
      exact RowAt.of_own (eo1 e he)
    · obtain ⟨e, he, rfl⟩ := List.mem_map.1 hr
      have := hlok.2.2.2 e.x (hsoft e he)
      show e.x.p.soft.length ≤ 100000
      omega
    · obtain ⟨e, he, rfl⟩ := List.mem_map.1 hr
      have hp := hlok.1.p e.x (hsoft e he)
      exact ⟨by have := hp.hard; show e.x.p.hard ≤ _; omega, fun y hy => by have := hp.st y hy; have := hp.tm y hy; omega⟩
  have HR := Lib.hid (restore_any hraw gr now last n hnb.1 hnb.2.1 hnb.2.2 (by unfold rwE; rw [List.length_map, ← hn6, hl6]; exact hlok.2.2.1) (fun r hr => by obtain ⟨e, he, rfl⟩ := List.mem_map.1 hr; exact hlok.2.2.2 e.x (hsoft e he)) (by omega))
  have hll : (rwE E1).length = n6 := by rw [hn6]; unfold rwE; rw [List.length_map]
  rw [okL_list hu1 hlok.1 hlok.2.1 hadv HS.out.iv, hll] at HR
  rw [← hn6] at ow1 dj1
  simp only [← hn6]
  have ST1 := Lib.hid s1
  have O1 := Lib.hid o1
  have SP1 := Lib.hid (Spl.of_own eo1)
  have HEO := Lib.hid eo1
  have HDJ := Lib.hid dj1
  have HOW := Lib.hid ow1
  have HU1 := Lib.hid hu1
  have HN6 := Lib.hid hn6
  have hn6b : n6 ≤ 98000 := by rw [hl6]; have := hlok.2.2.1; omega
  have HLS := Lib.hid (fun e he => hlok.2.2.2 e.x (hsoft e he))
  have SX1 := Lib.hid (SX.out.only o1 (fun x hx => .inl (hOlt.out x hx)))
  clear hu1 ow1 eo1 dj1 s1 o1 hraw hl6 hsoft hlok hnb hadv hll hn6 HL HW
  go_wp2_with (first
    | (go_at_call 29; refine (grace_any ST1.out).mono ?_; rintro e w' ⟨rfl, rfl⟩)
    | (go_at_call 23; refine (now_any ST1.out).mono ?_; rintro e w' ⟨rfl, rfl⟩)
    | (go_at_call 20; refine (last_any ST1.out).mono ?_; rintro e w' ⟨rfl, rfl⟩))
  refine HR.out.mono ?_
  rintro e w2 (⟨hbad, _⟩ | ⟨_, g', O', rfl, hst', hO', b2⟩)
  · cases hbad
  rw [tgR_rwE, HU1.out] at hst'
  have HC1 := Lib.hid hst'
  have HO1 := Lib.hid hO'
  have B2 := Lib.hid b2
  have SX2 := Lib.hid (SX1.out.below b2)
  have SP2 := Lib.hid (SP1.out.below b2)
  clear hst' hO' b2 HR
  go_wp2_with fail
  go_loopg [18] n6 (fun r s18 wr => ∃ i : Nat, r + i = n6 ∧ s18 = .int .i64 (i : Int) ∧ Only (EvB E1) w2 wr ∧ Spl wr E1)
  case atStart => exact ⟨0, rfl, rfl, Only.refl _ _, SP2.out⟩
  case round => as_aux_lemma =>
    obtain ⟨i, hi', rfl, ho, sp⟩ := hrel
    have HI := Lib.hid hi'
    have hil : i ≤ n6 := by omega
    have HO := Lib.hid ho
    have SP := Lib.hid sp
    clear hi' ho sp
    by_cases hlt : i < n6
    · obtain ⟨ev, hev⟩ : ∃ ev, E1[i]? = some ev := ⟨E1[i]'(by rw [← HN6.out]; exact hlt), List.getElem?_eq_getElem _⟩
      have hem := List.mem_of_getElem? hev
      obtain ⟨_, _, d2⟩ := evCells_get hev
      obtain ⟨g9, o9, c9, he9, _, hg9, hc9⟩ := RowAt.at (RowAt.of_own HOW.out) (by omega)
      injection he9 with r1 r2 r3
      subst r1
      have hnb : ¬ EvB E1 g9 := fun ⟨e, he, hz⟩ => HDJ.out e he g9 hz rfl
      have t2 : ∀ w', Only (EvB E1) w2 w' → w'.cell? ⟨g9, o9 + i * 3 + 2, none⟩ = some ev.v := fun w' ho => by
        have h5 := (ho.cell' (p := ⟨g9, o9 + (i * 3 + 2), none⟩) (by have := B2.out.size; show g9 < _; omega) hnb).trans ((B2.out.cell (p := ⟨g9, o9 + (i * 3 + 2), none⟩) hg9).trans (hc9 _ _ d2))
        rw [← Nat.add_assoc] at h5
        exact h5
      have T2 := Lib.hid t2
      have hsl := HLS.out ev hem
      have HEM := Lib.hid hem
      obtain ⟨pv, cv, hvf⟩ := own_form (HEO.out ev hem)
      obtain ⟨m6, hm6⟩ : ∃ m6, m6 = ev.x.p.soft.length := ⟨_, rfl⟩
      rw [← hm6] at hvf hsl
      rw [hvf] at T2
      have HVF := Lib.hid hvf
      have HM6 := Lib.hid hm6
      clear hev hem d2 hc9 hnb t2 r2 r3 hvf hm6
      have z2 := T2.out _ HO.out
      go_wp2_with fail
      obtain ⟨GO, hGO⟩ : ∃ GO, gk = GO := ⟨_, rfl⟩
      have HGO := Lib.hid hGO
      clear hGO z2
      go_loopg [19] m6 (fun r s19 wr => ∃ k : Nat, r + k = m6 ∧ s19 = .int .i64 (k : Int) ∧ Only (EvB E1) w2 wr ∧ Spl wr E1)
      case atStart => exact ⟨0, rfl, rfl, HO.out, SP.out⟩
      case round => as_aux_lemma =>
        clear HO SP
        obtain ⟨k, hk', rfl, ho, sp⟩ := hrel
        have HK := Lib.hid hk'
        have hkl : k ≤ m6 := by omega
        have HO := Lib.hid ho
        have SP := Lib.hid sp
        clear hk' ho sp
        have z2 := T2.out _ HO.out
        by_cases hkt : k < m6
        · obtain ⟨blk, off, cap, x, hvs, hcell, hfr, hbl⟩ := SP.out ev HEM.out k (by rw [← HM6.out]; exact hkt)
          have hvs2 := hvs.symm.trans HVF.out
          injection hvs2 with j1 j2 j3
          subst j1
          obtain ⟨y, hy⟩ : ∃ y, y = IntKind.u64.wrap (x + 1) := ⟨_, rfl⟩
          have hy2 := hy.symm
          clear j2 j3 hy
          go_wp2_with fail
          have hev : EvB E1 blk := ⟨ev, HEM.out, by rw [hvs]; rfl⟩
          have HO2 := Lib.hid (HO.out.trans ((Only.refl (EvB E1) wr).setCell1 (g := blk) (.inl hev) (off + k * 2) (.int .u64 y)) (fun z hz => .inl hz))
          have SP2 := Lib.hid (SP.out.set ⟨blk, off + k * 2, none⟩ y)
          go_roundg (gk - 1)
          case measure => have := HK.out; omega
          case rel => exact ⟨k + 1, by have := HK.out; omega, by go_num, HO2.out, SP2.out⟩
        · obtain rfl : k = m6 := by omega
          go_wp2_with fail
          go_roundg (GO - 1)
          case measure => have := HI.out; have := HGO.out; omega
          case rel => exact ⟨i + 1, by have := HI.out; have := HGO.out; omega, by go_num, HO.out, SP.out⟩
    · obtain rfl : i = n6 := by omega
      have hEB : ∀ z, EvB E1 z → W.heap.size ≤ z ∧ z < w1.heap.size := fun z ⟨e, he, hz⟩ => by
        have := (HEO.out e he).lt z hz
        omega
      have hws := O1.out.size
      have hw2 := B2.out.size
      have SX4 := Lib.hid (SX2.out.only HO.out (fun x hx => .inr (by have := hEB x hx; omega)))
      have STC := Lib.hid (HC1.out.other HO.out (fun x hx hx2 => by have := HO1.out x hx; have := hEB x hx2; omega))
      have GC : Hid (Goes W O wr O') := ⟨(O1.out.trans (Only.of_below B2.out O) (fun z hz => .inl hz)).trans HO.out (fun z hz => .inr (hEB z hz).1), fun x hx => .inr (by have := HO1.out x hx; omega)⟩
      have D4 := Lib.hid (SX4.out.below ((Below.refl _ _).drew : Below wr.heap.size wr wr.drew))
      obtain ⟨⟨k0, k1, k2, k3⟩, _, ⟨u0, u1, u2, u3⟩⟩ := SX4.out.cells
      have uf := SX4.out.br.frozen
      obtain ⟨⟨m0, m1, m2, m3⟩, _, ⟨r0, r1, r2, r3⟩⟩ := D4.out.cells
      have rf := D4.out.br.frozen
      go_wp2_with fail
      go_region
      all_goals
        go_wp2_with fail
        obtain ⟨ho, e0, e1, e2, e3⟩ := D4.out.ret (gr : Int) (now : Int) (last : Int) (.slice q n5 c)
        obtain ⟨_, e0, e1, e2, e3⟩ := SX4.out.ret (gr : Int) (now : Int) (last : Int) (.slice q n5 c)
        obtain ⟨f1, f2⟩ := HS.out.go (w3 := _) HB.out (DocV.refl S0.out.li) S0.out.ln S0.out.un (STC.out.below ((Below.refl _ _).drew : Below wr.heap.size wr wr.drew)) (⟨GC.out.only.trans (Only.of_below ((Below.refl _ _).drew : Below wr.heap.size wr wr.drew) (fun _ => False)) (fun _ h => h.elim), GC.out.new⟩ : Goes W O wr.drew O') HS.out.iv (ho.more (fun x hx => .inl ⟨hx.1, by omega⟩))
        exact bodyPost_ret (v := .tuple #[.pointer (some ⟨g', 0, none⟩), mV (gr : Int) (now : Int) (last : Int) (.slice q n5 c), .bool true]) (by simp [results, Try.results31, go_sem, e0, e1, e2, e3]) rfl ⟨g', now, last, n, q, n5, c, E, _, O', rfl, f1, f2, Nat.le_succ _, Nat.le_succ _⟩
end Go.Proofs.Ytckdfnlleaifcaa
