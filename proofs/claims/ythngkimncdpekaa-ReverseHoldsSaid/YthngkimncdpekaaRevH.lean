/- An index of entries: Add. -/
import Derived.Test.YthngkimncdpekaaRevG
namespace Go.Proofs.Ythngkimncdpekaa
set_option linter.unusedVariables false
open Go.RowKit Go.Maps Go.Sort

@[irreducible] def appS (t : Array TypeId) (ty : TypeId) (v : Array Value) : Sem Value := Builtin.append_ t ty v
theorem appS_eq (t : Array TypeId) (ty : TypeId) (v : Array Value) : Builtin.append_ t ty v = appS t ty v := by unfold appS; rfl
attribute [local go_sem ↓] appS_eq
section
variable {w : World} {x tb lb sb : Nat} {most seed R : Int} {n : Nat} {own : Nat → Option Nat} {Rd : Nat → Prop} {lm : List (Nat × (Slc × Slc))} {sm : List (Nat × Slc)} {l0 : Nms} {d : Dx}
set_option maxHeartbeats 2000000 in
set_option maxRecDepth 100000 in
theorem add_arg (h : Ry w x tb lb sb most seed R n own Rd lm sm l0 d) (id : Nat) (hid : id ≤ 18446744073709551615) (v : Value) (ts : List (List UInt8)) (hv : Reads w v (ts.map encStr)) (ht : ts.length ≤ 1000) (hbad : id ≤ lastE d.all ∨ tagsB ts = false) :
    Calls Try.prog 14 #[.pointer (some ⟨x, 0, none⟩), .int .u64 (id : Int), v] w fun e w' => e = .returned (.tuple #[.slice none 0 0, .int .i64 2]) ∧ Below w.heap.size w w' := by
  obtain ⟨d0, d1, d2, d3, d4, d5⟩ := h.cells
  have HN := Lib.hid (fun W => @rvnone_no W x tb)
  have HK := Lib.hid (keyTags_any v ts w hv (by omega))
  have hkl : (kTags ts).1.length ≤ 1000 := by
    unfold kTags
    split
    · split
      · show (kUniq ts).length ≤ 1000; omega
      · exact Nat.zero_le _
    · exact Nat.zero_le _
  have hxl := h.bk.lt
  have HV := Lib.hid hv
  by_cases hi : id ≤ lastE d.all
  · have e1 : decide (id ≤ lastE d.all) = true := decide_eq_true hi
    generalize kTags ts = K at *
    obtain ⟨K1, K2⟩ := K
    clear h hbad d2 d3 d4 d5
    go_enter Try.func14, Try.ntmps14
    go_wp2_with (first
      | (go_at_call 55; refine (HN.out _ (by assumption)).mono ?_; rintro e w1 ⟨rfl, rfl⟩)
      | (go_at_call 56; refine HK.out.mono ?_; rintro e w1 ⟨u, rfl, hu, b1⟩; have d1 := (b1.cell (p := ⟨x, 1, none⟩) hxl).trans d1))
    go_ret2
    exact ⟨rfl, b1⟩
  · have e1 : decide (id ≤ lastE d.all) = false := decide_eq_false hi
    have htb := hbad.resolve_left hi
    by_cases he : (kTags ts).2 = 0
    · have hne : (kTags ts).1 ≠ ts := fun e => by
        have := (tagsB_iff ts).2 ⟨he, e⟩
        rw [htb] at this
        cases this
      have e2 : ((kTags ts).2 != 0) = false := by simpa using he
      have hlm : (kTags ts).1 ≠ [] → ts ≠ [] := fun h1 e => by rw [e] at h1; exact h1 rfl
      have HQ := Lib.hid (fun (u : Value) (W : World) (hb : Below w.heap.size w W) (hu : Reads W u ((kTags ts).1.map encStr)) => equalS_any u v (kTags ts).1 ts W hu (HV.out.below hb) hlm (by omega) (by omega))
      rw [decide_eq_false hne] at HQ
      generalize kTags ts = K at *
      obtain ⟨K1, K2⟩ := K
      simp only at he e2 HQ hkl
      clear h hbad d2 d3 d4 d5 hne hlm htb hi
      go_enter Try.func14, Try.ntmps14
      go_wp2_with (first
        | (go_at_call 55; refine (HN.out _ (by assumption)).mono ?_; rintro e w1 ⟨rfl, rfl⟩)
        | (go_at_call 56; refine HK.out.mono ?_; rintro e w1 ⟨u, rfl, hu, b1⟩; have d1 := (b1.cell (p := ⟨x, 1, none⟩) hxl).trans d1; have hur := Reads.of_own (by rw [List.length_map]; exact hu) (by rw [List.length_map]; omega))
        | (go_at_call 57; refine (HQ.out _ _ b1 hur).mono ?_; rintro e w2 ⟨rfl, b2⟩))
      go_ret2
      exact ⟨rfl, b1.trans (b2.mono b1.size)⟩
    · have e2 : ((kTags ts).2 != 0) = true := by simpa using he
      generalize kTags ts = K at *
      obtain ⟨K1, K2⟩ := K
      simp only at he e2 hkl
      clear h hbad d2 d3 d4 d5 htb hi
      go_enter Try.func14, Try.ntmps14
      go_wp2_with (first
        | (go_at_call 55; refine (HN.out _ (by assumption)).mono ?_; rintro e w1 ⟨rfl, rfl⟩)
        | (go_at_call 56; refine HK.out.mono ?_; rintro e w1 ⟨u, rfl, hu, b1⟩; have d1 := (b1.cell (p := ⟨x, 1, none⟩) hxl).trans d1))
      go_ret2
      exact ⟨rfl, b1⟩
set_option maxHeartbeats 8000000 in
set_option maxRecDepth 100000 in
theorem add_ok (h : Ry w x tb lb sb most seed R n own Rd lm sm l0 d) (hn : n ≤ 10000) (hR0 : 0 ≤ R) (hR : R ≤ 2147483000) (id : Nat) (hid : id ≤ 18446744073709551615) (v : Value) (ts : List (List UInt8)) (hv : Reads w v (ts.map encStr)) (hi : ¬ id ≤ lastE d.all) (htb : tagsB ts = true) :
    Calls Try.prog 14 #[.pointer (some ⟨x, 0, none⟩), .int .u64 (id : Int), v] w (AddP_ w x most seed R n (fun g => own g ≠ none) Rd (d.add most id ts)) := by
  obtain ⟨d0, d1, d2, d3, d4, d5⟩ := h.cells
  have HN := Lib.hid (fun W => @rvnone_no W x tb)
  obtain ⟨hkt, hk1⟩ := (tagsB_iff ts).1 htb
  obtain ⟨hval, hsrt, hlen, hnd⟩ := tagsB_is htb
  have HK := keyTags_any v ts w hv (by omega)
  rw [hkt, hk1] at HK
  have HK := Lib.hid HK
  have e1 : decide (id ≤ lastE d.all) = false := decide_eq_false hi
  have HQ := Lib.hid (fun (u : Value) (W : World) (hb : Below w.heap.size w W) (hu : Reads W u (ts.map encStr)) => equalS_any u v ts ts W hu (hv.below hb) (fun h => h) (by omega) (by omega))
  rw [decide_eq_true rfl] at HQ
  have HADD := Lib.hid (adds_is (most := most) h.wf hR0 hnd hval)
  have HSS := Lib.hid hval
  have HY := Lib.hid h
  have hxl := h.bk.lt
  have hms := h.ms
  have hwl := wrong_le d.all d.sl
  have hln := h.ln
  obtain ⟨Ot0, ht0, hot0⟩ := h.tab
  have HST0 : Hid (Dst w w x tb lb sb most seed R own d.all d.sl 0 Ot0 l0 none 0 []) := ⟨by have := h.bk; simpa using this, ht0, fun g hg => .inl (hot0 g hg), World.ownsRow_nil _ _ _ _, fun g hg => by simp [Value.ownBlock] at hg, Only.refl _ _, h.wf, h.ox, h.bk.lt⟩
  have HO0 : Hid (∀ g, Ot0 g → g < w.heap.size) := fun g hg => ht0.lt hg
  obtain ⟨N, hN⟩ : ∃ N, ts.length = N := ⟨_, rfl⟩
  rw [hN] at hlen HK
  have HN_ := Lib.hid hN
  obtain ⟨i0, hi_, hp0⟩ := Option.map_eq_some_iff.1 intInfo
  have hz0 : i0.zero = some (.int .i64 0) := congrArg (·.1) hp0
  have hz1 : i0.size = 1 := congrArg (·.2.1) hp0
  have hz2 : i0.bytes = 8 := congrArg (·.2.2) hp0
  have HDF : Hid (∀ (ns : List Nat) (e : Int), (addsM most l0 ts).2 = (ns, e) → e ≠ 0 → d.add most id ts = (d, [], e)) := fun ns e h1 h2 => by
    rw [(Nq.addsM h.wf hR0 h.nq).1] at h1
    unfold Dx.add
    rw [if_neg (by rw [htb]; simp; omega), if_neg (by rw [h1]; exact h2), h1]
  have HDS : Hid (∀ (l1 : Nms) (ns : List Nat), addsM most l0 ts = (l1, ns, 0) → d.add most id ts = (⟨(addsM most d.nm ts).1, d.all ++ [⟨id, ts, ns, true⟩], d.sl ++ ns.map (fun n => (n, id))⟩, ns, 0) ∧ Nq l1 (addsM most d.nm ts).1) := fun l1 ns h1 => by
    have h2 := Nq.addsM (most := most) (ts := ts) h.wf hR0 h.nq
    rw [h1] at h2
    unfold Dx.add
    rw [if_neg (by rw [htb]; simp; omega), ← h2.1, if_pos rfl]
    exact ⟨rfl, h2.2⟩
  have HIW : Hid (Iw most (R + 16) (d.add most id ts).1) := h.iw.add hR0 id ts
  clear h hv hi htb hkt hk1 hval hsrt hnd ht0 hot0 hN d2 d3 d4 d5 hp0
  go_enter Try.func14, Try.ntmps14
  go_wp2_with (first
    | (go_at_call 55; refine (HN.out _ (by assumption)).mono ?_; rintro e w1 ⟨rfl, rfl⟩)
    | (go_at_call 56; refine HK.out.mono ?_; rintro e w1 ⟨u, rfl, hu, b1⟩; have d1 := (b1.cell (p := ⟨x, 1, none⟩) hxl).trans d1; have hur : Reads w1 u (ts.map encStr) := Reads.of_own (by rw [List.length_map, HN_.out]; exact hu) (by rw [List.length_map, HN_.out]; omega); obtain ⟨pu, cu, rfl⟩ := owns_form hu)
    | (go_at_call 57; refine (HQ.out _ _ b1 hur).mono ?_; rintro e w2 ⟨rfl, b2⟩))
  have hb2 : Below w.heap.size w w2 := b1.trans (b2.mono b1.size)
  have HST2 := Lib.hid (HST0.out.below hb2)
  have HTG2 : Hid (Tgs w w2 Ot0 (.slice none 0 0) (.slice pu N cu) ts) := ⟨by rw [HN_.out]; exact ownsRow_below hu b2, fun g hg => ⟨fun hO => by have := HO0.out g hO; have := (hu.lt g hg).1; omega, by simp [Value.ownBlock]⟩⟩
  clear b1 b2 hb2 hu hur d1 d0 HST0 HK HQ
  go_loopg [10, 44] N (fun r s10 s44 wr => ∃ (k : Nat) (Ot : Nat → Prop) (li : Nms) (q : Option Addr) (c nf : Nat) (ns : List Nat), r + k = N ∧ s44 = .int .i64 (k : Int) ∧ nf = ns.length ∧ s10 = .slice q nf c ∧ Dst w wr x tb lb sb most seed (R + (k : Int)) own d.all d.sl 0 Ot li q c ns ∧ Tgs w wr Ot (.slice q nf c) (.slice pu N cu) ts ∧ addsM most l0 ts = ((addsM most li (ts.drop k)).1, ns ++ (addsM most li (ts.drop k)).2.1, (addsM most li (ts.drop k)).2.2) ∧ nf ≤ k)
  case atStart => exact ⟨0, Ot0, l0, none, 0, 0, [], by omega, rfl, rfl, rfl, (by have := HST2.out; simpa using this), HTG2.out, (by simp), Nat.le_refl _⟩
  case round =>
    obtain ⟨k, Ot, li, q, c, nf, ns, hk, rfl, hnf, rfl, hst, htg, hrest, hnk⟩ := hrel
    have HK := Lib.hid hk
    have HNF := Lib.hid hnf
    have HST := Lib.hid hst
    have HTG := Lib.hid htg
    have HREST := Lib.hid hrest
    have hkn : k ≤ N := by omega
    have x0 := hst.bk.cell 0
    simp only [List.getElem?_toArray, List.getElem?_cons_zero] at x0
    clear hk hst hnf hrest htg
    by_cases hlt : k < N
    · have hlt2 : k < ts.length := by rw [HN_.out]; exact hlt
      obtain ⟨s, hs⟩ : ∃ s, ts[k] = s := ⟨_, rfl⟩
      have hvs : validB s = true := HSS.out s (by rw [← hs]; exact List.getElem_mem hlt2)
      have hdrop : ts.drop k = s :: ts.drop (k + 1) := by rw [← hs]; exact List.drop_eq_getElem_cons hlt2
      rw [hdrop] at HREST
      have hrow := HTG.out.row
      rw [HN_.out] at hrow
      obtain ⟨gu, cu', hvf, hgu1, hgu2⟩ := hrow.form (by omega)
      injection hvf with h1 h2 h3
      subst h1 h3
      have hc := hrow.cellAt k (by omega)
      rw [List.getElem?_map, List.getElem?_eq_getElem hlt2, hs] at hc
      change wr.cell? ⟨gu, k, none⟩ = some (.string ⟨s.toArray⟩) at hc
      have hsz : (⟨s.toArray⟩ : ByteArray).size ≤ 140737488355328 := by
        unfold validB at hvs
        rw [Bool.and_eq_true, decide_eq_true_eq, decide_eq_true_eq] at hvs
        show s.toArray.size ≤ _
        simp
        omega
      have hdat : (⟨s.toArray⟩ : ByteArray).data.toList = s := by simp
      have HA := add_any HST.out.tab hms.1 hms.2 HST.out.wf (by omega) (⟨s.toArray⟩ : ByteArray) hsz
      rw [hdat] at HA
      have hsp := addM_spec HST.out.wf hvs
      generalize (⟨s.toArray⟩ : ByteArray) = sb8 at hc HA
      have HSTA := Lib.hid (fun (wr' : World) (O' : Nat → Prop) => HST.out.add (wr' := wr') (O' := O') (s := s) (by omega))
      have hrests := adds_rest HREST.out
      clear HREST hrow hs hdrop hvs hsz hdat h2
      rcases hsp with he | ⟨l', m, he, _⟩
      · rw [he] at HA HSTA hrests
        have HR7 := Lib.hid (hrests.2 (by simp))
        have HA := Lib.hid HA
        clear hrests he
        go_wp2_with (go_at_call 58; refine HA.out.mono ?_; rintro e w3 ⟨O', rfl, t', o', n'⟩; have D3 := Lib.hid (HSTA.out _ _ t' o' n'); clear t' o' n')
        have hundo := undo_is HY.out.wf HADD.out
        rw [HR7.out] at hundo
        have HUN := Lib.hid (hundo.trans HY.out.nq)
        have HDA := Lib.hid (HDF.out ns 7 (by rw [HR7.out]) (by decide))
        clear hundo HA HSTA
        go_loopg [61] nf (fun r s61 wr => ∃ (j : Nat) (Ot' : Nat → Prop) (lj : Nms), r + j = nf ∧ s61 = .int .i64 (j : Int) ∧ Dst w wr x tb lb sb most seed (R + (k : Int) + 1) own d.all d.sl 0 Ot' lj q c ns ∧ (relsM li ns).1 = (relsM lj (ns.drop j)).1)
        case atStart => exact ⟨0, O', li, by omega, rfl, D3.out, rfl⟩
        case round =>
          obtain ⟨j, Ot', lj, hj, rfl, hdj, hrj⟩ := hrel
          have HJ := Lib.hid hj
          have HDJ := Lib.hid hdj
          have HRJ := Lib.hid hrj
          have hjn : j ≤ nf := by omega
          have y0 := hdj.bk.cell 0
          simp only [List.getElem?_toArray, List.getElem?_cons_zero] at y0
          clear hj hdj hrj
          by_cases hjl : j < nf
          · have hjl2 : j < ns.length := by rw [← HNF.out]; exact hjl
            have hrow := HDJ.out.row
            rw [← HNF.out] at hrow
            obtain ⟨gq, cq, hvf, _, _⟩ := hrow.form (by omega)
            injection hvf with h1 h2 h3
            subst h1 h3
            have hc := hrow.cellAt j (by omega)
            obtain ⟨m, hm⟩ : ∃ m, ns[j] = m := ⟨_, rfl⟩
            rw [List.getElem?_map, List.getElem?_eq_getElem hjl2, hm] at hc
            change wr.cell? ⟨gq, j, none⟩ = some (.int .i64 (m : Int)) at hc
            have hdrop : ns.drop j = m :: ns.drop (j + 1) := by rw [← hm]; exact List.drop_eq_getElem_cons hjl2
            rw [hdrop] at HRJ
            have HREL := Lib.hid (rel_any HDJ.out.tab hms.1 HDJ.out.wf (by omega) (m : Int))
            clear hrow hm hdrop h2
            go_wp2_with (go_at_call 59; refine HREL.out.mono ?_; rintro e w5 ⟨O5, rfl, t', o', n'⟩; have D5 := Lib.hid (HDJ.out.rel t' o' n'); clear t' o' n')
            go_roundg (nf - (j + 1))
            case measure => have := HJ.out; omega
            case rel => exact ⟨j + 1, O5, _, by omega, by go_num, D5.out, HRJ.out⟩
          · obtain rfl : j = nf := by omega
            go_wp2_with fail
            go_ret2
            have hlj := HRJ.out
            rw [List.drop_of_length_le (by rw [← HNF.out]; exact Nat.le_refl _)] at hlj
            have hq := HUN.out
            change Nq (relsM li ns).1 d.nm at hq
            rw [hlj] at hq
            have D := HDJ.out
            have D16 : Dst w wr x tb lb sb most seed (R + 16) own d.all d.sl 0 Ot' lj q c ns := ⟨D.bk, D.tab, D.ot, D.row, D.off, D.only, D.wf.mono (by omega), D.ox, D.xl⟩
            obtain ⟨hry, hon⟩ := HY.out.back hR0 D16 hq
            rw [HDA.out]
            refine ⟨.slice none 0 0, fun g => ownT own Ot' g ≠ none, Rd, rfl, World.ownsRow_nil _ _ _ _, ⟨tb, lb, sb, _, _, _, _, hry.mono (by omega), fun g => Iff.rfl⟩, ⟨hon, fun g hg => ?_⟩, fun g hg => .inl hg, fun g hg => by simp [Value.ownBlock] at hg⟩
            by_cases hO : Ot' g
            · rcases D.ot g hO with h1 | h1
              · exact .inl (by rw [h1]; simp)
              · exact .inr h1
            · rw [ownT_no hO] at hg
              exact .inl hg
      · rw [he] at HA HSTA hrests
        have HR0' := Lib.hid (hrests.1 rfl)
        have HA := Lib.hid HA
        rw [Int.toNat_natCast] at HR0'
        clear hrests he
        go_wp2_with (first
          | (go_at_call 58; refine HA.out.mono ?_; rintro e w3 ⟨O', rfl, t', o', n'⟩; have D3 := Lib.hid (HSTA.out _ _ t' o' n'); have G3 := Lib.hid (HTG.out.turn o' n'); have hnf2 := HNF.out; subst hnf2; clear t' o' n')
          | (at_builtin; refine wpList_append_own_at _ rfl _ _ 46 rfl w.heap.size 3 i0 (.int .i64 0) 1 8 Try.underlying46 hi_ hz0 hz1 hz2 rfl (by decide) _ _ _ rfl (D3.out.row.alloc _) ⟨w3.heap.size, 0, none⟩ 1 1 [.int .i64 (m : Int)] rfl rfl ?c1 ?c2 ?c3 ?c4 ?c5 ?_))
        case c1 => exact cell_one_new _ _ _
        case c2 => exact one_int _ _
        case c3 => unfold maxLen; omega
        case c4 => omega
        case c5 => have := D3.out.only.size; simp; omega
        intro v' w4 hown hg3 _ hblk
        obtain ⟨q', c', rfl⟩ := owns_form hown
        have hq3 : ∀ z, (Value.slice q' (ns.length + 1) c').ownBlock = some z → (Value.slice q ns.length c).ownBlock = some z ∨ w3.heap.size ≤ z := fun z hz => by
          rcases hblk with h1 | h1
          · exact .inl (h1.symm.trans hz)
          · rw [hz] at h1
            injection h1 with h1
            exact .inr (by first | omega | (simp at h1; omega))
        have D4 := Lib.hid (D3.out.app hown hg3 hq3)
        have G4 := Lib.hid (G3.out.app (qv' := .slice q' (ns.length + 1) c') hg3 hq3)
        clear hown hg3 hblk hq3 D3 G3
        go_wp2_with fail
        go_roundg (N - (k + 1))
        case measure => have := HK.out; omega
        case rel => exact ⟨k + 1, O', l', q', c', ns.length + 1, ns ++ [m], by omega, by go_num, by simp, rfl, (by have := D4.out; rw [show R + ((k + 1 : Nat) : Int) = R + (k : Int) + 1 by omega]; exact this), G4.out, HR0'.out, by omega⟩
    · obtain rfl : k = N := by omega
      have hrest := HREST.out
      rw [List.drop_of_length_le (by rw [HN_.out]; exact Nat.le_refl _), show addsM most li [] = (li, [], 0) from rfl, List.append_nil] at hrest
      simp only at hrest
      have HRS := Lib.hid hrest
      have HMS : Hid (∀ m ∈ ns, m < 65536) := fun m hm => by
        have h1 := HADD.out
        rw [HRS.out] at h1
        have h2 := h1.refs m
        rw [if_pos hm] at h2
        have h3 := (HY.out.wf.refs m).1
        have h4 : liveB li m = true := by unfold liveB; rw [decide_eq_true_eq]; simp only at h2; omega
        have h5 := live_lt h4
        have h6 := HST.out.wf.size
        omega
      have hown1 : ∀ g, w.heap.size ≤ g → ¬ Ot g → ownT own Ot g = none := fun g hg hO => by
        rw [ownT_no hO]
        cases ho : own g with
        | none => rfl
        | some i => have := HY.out.olt g i ho; omega
      have hsv1 : Sv wr sb n (ownT own Ot) sm d.sl := by
        have D := HST.out
        have h5 := HY.out.sv.only D.only (fun e => by rw [HY.out.os] at e; rcases e with e | e <;> (injection e with e; omega)) (fun g k hg e => by rw [hg] at e; rcases e with e | e <;> (injection e with e; omega))
        exact ⟨h5.mp, h5.has, fun k hk => ⟨(h5.at_ k hk).1, fun g hg => ownT_old D.ot ((h5.at_ k hk).2 g hg) (HY.out.olt g _ ((HY.out.sv.at_ k hk).2 g hg))⟩⟩
      have holt1 : ∀ g i, ownT own Ot g = some i → g < wr.heap.size := fun g i hg => by
        by_cases hO : Ot g
        · exact HST.out.tab.lt hO
        · rw [ownT_no hO] at hg
          exact Nat.lt_of_lt_of_le (HY.out.olt g i hg) HST.out.only.size
      have hox1 : ownT own Ot x = some 0 := ownT_old HST.out.ot HY.out.ox hxl
      have hos1 : ownT own Ot sb = some 2 := ownT_old HST.out.ot HY.out.os HY.out.sv.mp.lt
      have hol1 : ownT own Ot lb = some 1 := ownT_old HST.out.ot HY.out.ol HY.out.lv.mp.lt
      have HOWN1 := Lib.hid hown1
      obtain ⟨own1, ho1⟩ : ∃ own1, own1 = ownT own Ot := ⟨_, rfl⟩
      rw [← ho1] at hsv1 holt1 hox1 hos1 hol1 HOWN1
      have HO1 := Lib.hid ho1
      have HSV1 := Lib.hid hsv1
      have HOLT1 := Lib.hid holt1
      obtain ⟨W3, hW3⟩ : ∃ W3, wr = W3 := ⟨_, rfl⟩
      have GK := Lib.hid (show gk = gk from rfl)
      rw [hW3] at HST HTG HSV1 HOLT1
      have HW3 := Lib.hid hW3
      clear hrest hown1 hsv1 holt1 ho1 HREST hW3
      go_wp2_with fail
      go_loopg [80] nf (fun r s80 wr => ∃ (j : Nat) (ownJ : Nat → Option Nat) (smJ : List (Nat × Slc)), r + j = nf ∧ s80 = .int .i64 (j : Int) ∧ Sv wr sb (n + j) ownJ smJ (d.sl ++ (ns.take j).map (fun m => (m, id))) ∧ (∀ g i, own1 g = some i → ownJ g = some i) ∧ (∀ g i, ownJ g = some i → own1 g = some i ∨ (W3.heap.size ≤ g ∧ 4 ≤ i)) ∧ (∀ g i, ownJ g = some i → g < wr.heap.size) ∧ Only (fun g => own1 g = some 2 ∨ ∃ i, own1 g = some (i + 4)) W3 wr)
      case atStart => exact ⟨0, own1, sm, by omega, rfl, by rw [HW3.out]; simpa using HSV1.out, fun g i hg => hg, fun g i hg => .inl hg, (by rw [HW3.out]; exact HOLT1.out), by rw [HW3.out]; exact Only.refl _ _⟩
      case round =>
        obtain ⟨j, ownJ, smJ, hj, rfl, hsj, hj1, hj2, hj3, hjo⟩ := hrel
        have HJ := Lib.hid hj
        have HSJ := Lib.hid hsj
        have HJ1 := Lib.hid hj1
        have HJ2 := Lib.hid hj2
        have HJ3 := Lib.hid hj3
        have HJO := Lib.hid hjo
        have hjn : j ≤ nf := by omega
        clear hj hsj hj1 hj2 hj3 hjo
        by_cases hjl : j < nf
        · have hjl2 : j < ns.length := by rw [← HNF.out]; exact hjl
          have hrow := ownsRow_only HST.out.row HJO.out (fun g hg hs => by
            have h1 := HOWN1.out g (HST.out.row.lt g hg).1 (HST.out.off g hg)
            rcases hs with hs | ⟨i, hs⟩ <;> (rw [h1] at hs; cases hs))
          rw [← HNF.out] at hrow
          obtain ⟨gq, cq, hvf, _, _⟩ := hrow.form (by omega)
          injection hvf with h1 h2 h3
          subst h1 h3
          have hc := hrow.cellAt j (by omega)
          obtain ⟨m, hm⟩ : ∃ m, ns[j] = m := ⟨_, rfl⟩
          rw [List.getElem?_map, List.getElem?_eq_getElem hjl2, hm] at hc
          change wr.cell? ⟨gq, j, none⟩ = some (.int .i64 (m : Int)) at hc
          have hm5 : m < 65536 := HMS.out m (by rw [← hm]; exact List.getElem_mem hjl2)
          have HTK : Hid (ns.take (j + 1) = ns.take j ++ [m]) := by
            unfold Hid
            rw [List.take_add_one, List.getElem?_eq_getElem hjl2, hm]
            rfl
          have hxb := HST.out.bk.only HJO.out (fun e => by rcases e with e | ⟨i, e⟩ <;> (rw [hox1] at e; injection e with e; omega))
          have HXB := Lib.hid hxb
          clear hrow hm h2
          have hlen3 : (d.sl ++ (ns.take j).map (fun m => (m, id))).length ≤ n + j := by rw [List.length_append, List.length_map, List.length_take]; omega
          go_wp2_with fail
          have HSJD : Hid (Sv wr.drew sb (n + j) ownJ smJ (d.sl ++ (ns.take j).map (fun m => (m, id)))) := HSJ.out.only ((Only.refl (fun _ => False) wr).drew) (fun h => h) (fun _ _ _ h => h)
          have hbA := (Below.refl wr.drew.heap.size wr.drew).alloc (Nat.le_refl _) (.cells #[.int .u64 (id : Int)] 29)
          have hHA : wr.drew.heap.size = wr.heap.size := rfl
          have HSJA := Lib.hid (HSJD.out.only (Only.of_below hbA (fun _ => False)) (fun h => h) (fun _ _ _ h => h))
          have hrowA := HSJA.out.slc m
          have hlkD := lookN HSJD.out.mp hm5
          have hlkA := lookN HSJA.out.mp hm5
          have hlzn := slc_len hrowA
          have hx3 := HXB.out.cell 3
          have hx3D : wr.drew.cell? ⟨x, 3, none⟩ = some (.map (some sb)) := hx3
          have hxl3 : x < wr.heap.size := HXB.out.lt
          have hx3A : (wr.drew.alloc (.cells #[.int .u64 (id : Int)] 29)).cell? ⟨x, 3, none⟩ = some (.map (some sb)) := (hbA.cell (p := ⟨x, 3, none⟩) hxl3).trans hx3
          have HAP := Lib.hid (nodup_keys HSJ.out.mp)
          have HPUSH := Lib.hid (fun (w5 w6 : World) (v' : Slc) => HSJD.out.push (o := .cells #[.int .u64 (id : Int)] 29) (w5 := w5) (w6 := w6) (k := m) (id := id) (v := v') (HJ1.out sb 2 hos1) HAP.out HJ3.out HSJ.out.mp.lt)
          obtain ⟨L, hL⟩ : ∃ L, ofX (d.sl ++ (ns.take j).map (fun m => (m, id))) m = L := ⟨_, rfl⟩
          have hLn : L.length ≤ n + j := by rw [← hL]; exact Nat.le_trans (ofX_len _ _) hlen3
          rw [hL] at hrowA hlzn HPUSH
          obtain ⟨zo, hzo⟩ : ∃ zo, mget slcZ smJ m = zo := ⟨_, rfl⟩
          rw [hzo] at hrowA hlkD hlkA hlzn HPUSH
          obtain ⟨po, no, co⟩ := zo
          simp only at hlzn
          subst hlzn
          have hownb : ∀ g, (Value.slice po L.length co).ownBlock = some g → own1 g = some (m + 4) ∨ W3.heap.size ≤ g := fun g hg => by
            by_cases hne : ofX (d.sl ++ (ns.take j).map (fun m => (m, id))) m = []
            · rw [mget_none (by rw [HSJ.out.has m, hne]; rfl)] at hzo
              injection hzo with hz1 hz2
              rw [← hz1] at hg
              simp [Value.ownBlock] at hg
            · have h1 := (HSJ.out.at_ m hne).2 g (by rw [hzo]; exact hg)
              rcases HJ2.out g _ h1 with h2 | h2
              · exact .inl h2
              · exact .inr h2.1
          have hW3x : x < W3.heap.size := HOLT1.out x 0 hox1
          have hxnb : ∀ g, (Value.slice po L.length co).ownBlock = some g → g ≠ x := fun g hg e => by
            rcases hownb g hg with h1 | h1
            · rw [e, hox1] at h1; injection h1 with h1; omega
            · omega
          obtain ⟨iu, hiu, hpu⟩ := Option.map_eq_some_iff.1 u64Info
          have hu0 : iu.zero = some (.int .u64 0) := congrArg (·.1) hpu
          have hu1 : iu.size = 1 := congrArg (·.2.1) hpu
          have hu2 : iu.bytes = 8 := congrArg (·.2.2) hpu
          obtain ⟨v5, w5, hrun, o5, g5, _, hv5⟩ := run_append_own_at (P := Try.prog) (wr.drew.alloc (.cells #[.int .u64 (id : Int)] 29)) 0 85 85 29 iu (.int .u64 0) 1 8 Try.underlying85 hiu hu0 hu1 hu2 rfl (by decide) (.slice po L.length co) L.length (idsV L) hrowA ⟨wr.drew.heap.size, 0, none⟩ 1 1 [.int .u64 (id : Int)] rfl (cell_one_new _ _ _) (one_int _ _) (by unfold maxLen; omega) (by omega) (Nat.zero_le _)
          obtain ⟨p5, c5, rfl⟩ := owns_form o5
          rw [appS_eq] at hrun
          have hrun2 : Sem.run Try.prog (appS #[85, 85] 85 #[.slice po L.length co, .slice (some ⟨wr.heap.size, 0, none⟩) 1 1]) (wr.alloc (.cells #[.int .u64 (id : Int)] 29)).drew = .ok (.slice p5 (L.length + 1) c5) w5 := hrun
          have hlkE : Sem.run Try.prog (Instr.lookup 72 (.map (some sb)) (.int .i64 (m : Int)) false) (wr.alloc (.cells #[.int .u64 (id : Int)] 29)).drew = .ok (.slice po L.length co) (wr.alloc (.cells #[.int .u64 (id : Int)] 29)).drew := hlkA
          have hlkF : Sem.run Try.prog (Instr.lookup 72 (.map (some sb)) (.int .i64 (m : Int)) false) wr.drew = .ok (.slice po L.length co) wr.drew := hlkD
          have hx3E : (wr.alloc (.cells #[.int .u64 (id : Int)] 29)).drew.cell? ⟨x, 3, none⟩ = some (.map (some sb)) := hx3A
          have hmA : MapN (wr.drew.alloc (.cells #[.int .u64 (id : Int)] 29)) sb (n + j) smJ := HSJA.out.mp
          have hsbn : some sb ≠ (Value.slice po L.length co).ownBlock := fun e => by
            rcases hownb sb e.symm with h1 | h1
            · rw [hos1] at h1; injection h1 with h1; omega
            · have := HOLT1.out sb 2 hos1; omega
          have hm5' := hmA.kept g5 hsbn
          have hx35 : w5.cell? ⟨x, 3, none⟩ = some (.map (some sb)) := by
            have hbx : Blk (wr.drew.alloc (.cells #[.int .u64 (id : Int)] 29)) x 74 #[.pointer (some ⟨tb, 0, none⟩), .int .u64 (lastE d.all : Int), .map (some lb), .map (some sb), .int .i64 (d.sl.length : Int), .int .i64 ((wrongX d.all d.sl : Int) + ((0 : Nat) : Int))] := HXB.out.drewN 1 |>.alloc _
            exact (Blk.grown hbx g5 (fun e => hxnb x e.symm rfl)).cell 3
          obtain ⟨w6, hrun60, m6, g6⟩ := World.mapv.update hm5' Try.underlying3 Try.underlying72 (by unfold maxLen; omega) (a := ((p5, L.length + 1, c5) : Slc)) trivial (s := m) (wf_i64 (by omega))
          have hrun6 : Sem.run Try.prog (Instr.mapUpdate 72 (.map (some sb)) (.int .i64 (m : Int)) (.slice p5 (L.length + 1) c5)) w5 = .ok () w6 := hrun60
          have HPU := Lib.hid (HPUSH.out w5 w6 (p5, L.length + 1, c5) o5 g5 (by
            rcases hv5 with h1 | h1
            · exact .inl h1
            · refine .inr (h1.trans ?_)
              simp) m6 g6)
          clear hrun hlkA hlkD hx3A hrowA hmA hm5' hrun60 m6 g6 o5 g5 hv5 hsbn hxnb hownb HPUSH hx3 hzo hbA HAP
          go_region
          go_wp2_with fail
          obtain ⟨own', f1, f2, f3, sv6, o6⟩ := HPU.out
          have hsW := HJO.out.size
          go_roundg (nf - (j + 1))
          case measure => have := HJ.out; omega
          case rel =>
            refine ⟨j + 1, own', _, by omega, by go_num, (by rw [HTK.out, List.map_append, ← List.append_assoc]; exact sv6), fun g i hg => f1 g i (HJ1.out g i hg), fun g i hg => ?_, f3, ?_⟩
            · rcases f2 g i hg with h1 | ⟨h1, h2⟩
              · exact HJ2.out g i h1
              · have h3 : g = wr.heap.size + 1 := h1
                exact .inr ⟨by omega, h2⟩
            · refine (HJO.out.drew : Only _ W3 wr.drew).trans o6 (fun g hg => ?_)
              rcases hg with hg | ⟨i, hg⟩
              · rcases HJ2.out g 2 hg with h1 | h1
                · exact .inl (.inl h1)
                · exact .inr h1.1
              · rcases HJ2.out g _ hg with h1 | h1
                · exact .inl (.inr ⟨i, h1⟩)
                · exact .inr h1.1
        · obtain rfl : j = nf := by omega
          have hxb := HST.out.bk.only HJO.out (fun e => by rcases e with e | ⟨i, e⟩ <;> (rw [hox1] at e; injection e with e; omega))
          have HXB := Lib.hid hxb
          have y0 := hxb.cell 0
          have y1 := hxb.cell 1
          have y2 := hxb.cell 2
          have y4 := hxb.cell 4
          have fx1 := hxb.frozen 1
          have fx4 := hxb.frozen 4
          simp only [List.getElem?_toArray, List.getElem?_cons_zero, List.getElem?_cons_succ] at y0 y1 y2 y4
          have htk : ns.take j = ns := List.take_of_length_le (by rw [← HNF.out]; exact Nat.le_refl _)
          have hsl : ((d.sl ++ ns.map (fun m => (m, id))).length : Int) = (d.sl.length : Int) + (j : Int) := by rw [List.length_append, List.length_map, ← HNF.out]; omega
          have w4e : IntKind.i64.wrap ((d.sl.length : Int) + (j : Int)) = (d.sl.length : Int) + (j : Int) := IntWalk.i64_in _ (by omega)
          have HSL := Lib.hid hsl
          have HTK := Lib.hid htk
          obtain ⟨W7, hW7⟩ : ∃ W7, (wr.setCell ⟨x, 4, none⟩ (.int .i64 ((d.sl.length : Int) + (j : Int)))).setCell ⟨x, 1, none⟩ (.int .u64 (id : Int)) = W7 := ⟨_, rfl⟩
          have o7 : Only (fun g => g = x) wr W7 := by rw [← hW7]; exact ((Only.refl (fun g => g = x) wr).setCell1 (g := x) (.inl rfl) 4 _).setCell1 (g := x) (.inl rfl) 1 _
          have hlv7 : MapL W7 lb n lm := by
            refine mapv_turn HY.out.lv.mp ?_
            have hne : lb ≠ x := fun e => by have := HY.out.ox; rw [← e, HY.out.ol] at this; cases this
            have hlb := HY.out.lv.mp.lt
            rw [o7.block lb (by have := HST.out.only.size; have := HJO.out.size; omega) hne, HJO.out.block lb (by have := HST.out.only.size; omega) (fun e => by rcases e with e | ⟨i, e⟩ <;> (rw [hol1] at e; injection e with e; omega)), HST.out.only.block lb hlb (fun e => by rcases e with e | e <;> (rw [HY.out.ol] at e; injection e with e; omega))]
          have hb7 : Blk W7 x 74 #[.pointer (some ⟨tb, 0, none⟩), .int .u64 (id : Int), .map (some lb), .map (some sb), .int .i64 ((d.sl.length : Int) + (j : Int)), .int .i64 (wrongX d.all d.sl : Int)] := by
            rw [← hW7]
            have := (hxb.set_ 4 (.int .i64 ((d.sl.length : Int) + (j : Int)))).set_ 1 (.int .u64 (id : Int))
            simpa using this
          obtain ⟨v0, st, Wa, Wb, r1, r2, m8, g8⟩ := World.mapv.twoStep hlv7 Try.underlying29 Try.underlying71 (by unfold maxLen; omega) (a := (((pu, k, cu), (q, j, c)) : Slc × Slc)) trivial (s := id) (wf_u64 hid) ent_zero
          have HB7 := Lib.hid hb7
          have HM8 := Lib.hid m8
          have HG8 := Lib.hid g8
          have HO7 := Lib.hid o7
          have hr1 : Sem.run Try.prog (Instr.mapEntry 71 (.map (some lb)) (.int .u64 (id : Int))) ((wr.setCell ⟨x, 4, none⟩ (.int .i64 ((d.sl.length : Int) + (j : Int)))).setCell ⟨x, 1, none⟩ (.int .u64 (id : Int))) = .ok (.tuple #[v0, .int .i64 (st : Int)]) Wa := by rw [hW7]; exact r1
          have hr2 : Sem.run Try.prog (Instr.entryStore 71 (.map (some lb)) (.int .i64 (st : Int)) (.agg #[.slice pu k cu, .slice q j c])) Wa = .ok () Wb := r2
          have hnf := HNF.out
          have hxlb : x ≠ lb := fun e => by have := HY.out.ox; rw [e, HY.out.ol] at this; cases this
          have o8 : Only (fun g => g = x ∨ g = lb) wr Wb := (HO7.out.more (S' := fun g => g = x ∨ g = lb) (fun g hg => .inl (.inl hg))).trans (Only.of_grown (S := fun g => g = x ∨ g = lb) HG8.out (.inr rfl)) (fun g hg => .inl hg)
          have hb8 := Blk.grown HB7.out HG8.out (by simp; exact hxlb)
          rw [← HSL.out] at hb8
          obtain ⟨hds1, hds2⟩ := HDS.out li ns HRS.out
          have hiw := HIW.out
          rw [hds1] at hiw
          have D := HST.out
          have D16 : Dst w W3 x tb lb sb most seed (R + 16) own d.all d.sl 0 Ot li q c ns := ⟨D.bk, D.tab, D.ot, D.row, D.off, D.only, D.wf.mono (by omega), D.ox, D.xl⟩
          have G := HTG.out
          have hsv := HSJ.out
          rw [HTK.out] at hsv
          have hsv16 := hsv.mono (n' := n + 16) (by omega)
          have hN := HN_.out
          have hm8 := HM8.out.mono (n' := n + 16) (by omega)
          rw [hnf] at G hm8
          rw [← hN] at G hm8
          obtain ⟨Rd', hry, hon, hn1, hn2, hrow⟩ := HY.out.readd hR0 hid (by have := of_decide_eq_false e1; omega) (N := 0) D16 G HO1.out hds2 hsv16 HJ1.out HJ2.out HJ3.out HJO.out o8 hb8 hm8 hiw (by omega) (by omega)
          have HDS1 := Lib.hid hds1
          have HRY := Lib.hid hry
          have HON := Lib.hid hon
          have HN1 := Lib.hid hn1
          have HN2 := Lib.hid hn2
          have HROWN := Lib.hid hrow
          have hclone : Calls Try.prog 60 #[.slice q j c] Wb (NewRow Wb 3 (numsV ns)) := by
            rw [hnf]
            exact cloneI_any _ ns Wb (Reads.of_own (by rw [List.length_map]; exact HROWN.out) (by rw [List.length_map]; omega)) (by omega)
          have HCL := Lib.hid hclone
          clear r1 r2 m8 g8 o7 hlv7 hb7 hW7 hxb htk hsl o8 hb8 hds1 hds2 hiw D D16 G hsv hsv16 hN hm8 hry hon hn1 hn2 hrow hclone hnf
          go_wp2_with (go_at_call 60; refine HCL.out.mono ?_; rintro e w9 ⟨v9, rfl, hv9, b9⟩)
          go_ret2
          rw [List.length_map] at hv9
          have hs9 := HON.out.size
          rw [HDS1.out]
          refine ⟨v9, fun g => ownJ g ≠ none, Rd', rfl, ownsRow_low hv9 hs9, ⟨tb, lb, sb, _, _, _, _, HRY.out.below b9, fun g => Iff.rfl⟩, ⟨HON.out.trans (Only.of_below b9 (fun _ => False)) (fun _ h => h.elim), HN1.out⟩, HN2.out, fun g hg => ?_⟩
          have h1 := (hv9.lt g hg).1
          rintro (h3 | h3)
          · obtain ⟨i, hi⟩ := Option.ne_none_iff_exists'.1 h3
            have := HRY.out.olt g i hi
            omega
          · have := (HRY.out.rd g h3).2
            omega
end
/-- Add, whatever the entry and the tags. -/
theorem rvadd_any {w : World} {x : Nat} {most seed R : Int} {n : Nat} {O Rd : Nat → Prop} {d : Dx} (h : Ri w x most seed R n O Rd d) (hn : n ≤ 10000) (hR0 : 0 ≤ R) (hR : R ≤ 2147483000) (id : Nat) (hid : id ≤ 18446744073709551615) (v : Value) (ts : List (List UInt8)) (hv : Reads w v (ts.map encStr)) (ht : ts.length ≤ 1000) :
    Calls Try.prog 14 #[.pointer (some ⟨x, 0, none⟩), .int .u64 (id : Int), v] w (AddP_ w x most seed R n O Rd (d.add most id ts)) := by
  obtain ⟨tb, lb, sb, own, lm, sm, l0, h1, h2⟩ := h
  by_cases hbad : id ≤ lastE d.all ∨ tagsB ts = false
  · have e : d.add most id ts = (d, [], 2) := by unfold Dx.add; rw [if_pos hbad]
    rw [e]
    refine (add_arg h1 id hid v ts hv ht hbad).mono ?_
    rintro e w' ⟨rfl, hb⟩
    have h3 := h1.below hb
    exact ⟨_, O, Rd, rfl, World.ownsRow_nil _ _ _ _, ⟨tb, lb, sb, own, lm, sm, l0, (⟨h3.bk, h3.tab, h3.nq, h3.wf.mono (by omega), h3.lv, h3.sv, h3.ox, h3.ol, h3.os, h3.olt, h3.rd, h3.iw.mono (by omega), h3.ln, h3.ms, h3.lb64⟩ : Ry w' x tb lb sb most seed (R + 16) n own Rd lm sm l0 d).mono (by omega), h2⟩, ⟨Only.of_below hb _, fun _ h => .inl h⟩, fun _ h => .inl h, fun g hg => by simp [Value.ownBlock] at hg⟩
  · rw [not_or] at hbad
    refine (add_ok h1 hn hR0 hR id hid v ts hv hbad.1 (by simpa using hbad.2)).mono ?_
    rintro e w' ⟨v', O', Rd', rfl, hv', hr, hg, hd, ho⟩
    exact ⟨v', O', Rd', rfl, hv', hr, ⟨hg.only.more (fun g hg => .inl ((h2 g).2 hg)), fun g hg' => (hg.new g hg').imp (fun h => (h2 g).2 h) (fun h => h)⟩, hd, ho⟩
end Go.Proofs.Ythngkimncdpekaa
