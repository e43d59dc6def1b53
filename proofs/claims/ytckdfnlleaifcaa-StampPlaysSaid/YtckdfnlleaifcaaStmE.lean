/- First. -/
import Derived.Test.YtckdfnlleaifcaaStmD
namespace Go.Proofs.Ytckdfnlleaifcaa
set_option linter.unusedVariables false
open Go.RowKit Go.Maps

def firstM (since : Nat) (l : List Sft) : Nat × Bool := match l.find? (fun x => decide (since < x.st)) with | some x => (x.tm, true) | none => (0, false)
theorem firstM_cons (since : Nat) (x : Sft) (l : List Sft) : firstM since (x :: l) = if since < x.st then (x.tm, true) else firstM since l := by
  unfold firstM
  rw [List.find?_cons]
  by_cases h : since < x.st
  · simp [h]
  · simp [h]
def FstP (w : World) (O : Nat → Prop) (g gr now last n : Nat) (r : Nat × Bool) (d : List Tg) (e : Ending) (w' : World) : Prop :=
  e = .returned (.tuple #[.int .u64 (r.1 : Int), .bool r.2, .int .i64 0]) ∧ St w' g gr now last n d O ∧ Only O w w'
set_option maxHeartbeats 2000000 in
set_option maxRecDepth 100000 in
theorem first_bad {w : World} {g gr now last n : Nat} {d : List Tg} {O : Nat → Prop} (h : St w g gr now last n d O) (t : Int) (ht : tagB t = false) (since : Nat) :
    Calls Try.prog 45 #[.pointer (some ⟨g, 0, none⟩), .int .i64 t, .int .u64 (since : Int)] w fun e w' => e = .returned (.tuple #[.int .u64 0, .bool false, .int .i64 2]) ∧ w = w' := by
  obtain ⟨b, own, m, l, h1, h2, rfl, h4⟩ := h
  have HC := Lib.hid (check_any h1.bk t)
  rw [ht] at HC
  clear h1 h2 h4 ht
  go_enter Try.func45, Try.ntmps45
  go_wp2_with (go_at_call 39; refine HC.out.mono ?_; rintro e w1 ⟨rfl, rfl⟩)
  exact bodyPost_ret (v := .tuple #[.int .u64 0, .bool false, .int .i64 2]) (by simp [results, Try.results45, go_sem]) rfl ⟨rfl, rfl⟩
set_option maxHeartbeats 2000000 in
set_option maxRecDepth 100000 in
theorem first_ok {w : World} {g gr now last n : Nat} {d : List Tg} {O : Nat → Prop} (h : St w g gr now last n d O) (t : Nat) (ht : t < 65536) (hn : n ≤ 100000) (since : Nat) :
    Calls Try.prog 45 #[.pointer (some ⟨g, 0, none⟩), .int .i64 (t : Int), .int .u64 (since : Int)] w (FstP w O g gr now last n (firstM since (knownP t d).soft) d) := by
  have hst0 := h
  obtain ⟨b, own, m, l, h1, h2, rfl, h4⟩ := h
  have hT : tagB (t : Int) = true := by unfold tagB; simp; omega
  have HC := Lib.hid (check_any h1.bk (t : Int))
  rw [hT, if_pos rfl] at HC
  have hkn := known_get (gr := gr) (now := now) (t := t) (l := l)
  cases hx : getT t l with
  | none =>
    rw [hx] at hkn
    rw [hkn]
    dsimp only
    have HF := Lib.hid (fresh_none h1 t ht hx)
    have HS := Lib.hid hst0
    clear h1 h2 h4 hT hx hkn hst0
    go_enter Try.func45, Try.ntmps45
    go_wp2_with (first
      | (go_at_call 39; refine HC.out.mono ?_; rintro e w1 ⟨rfl, rfl⟩)
      | (go_at_call 40; refine HF.out.mono ?_; rintro e w1 ⟨rfl, rfl⟩))
    exact bodyPost_ret (v := .tuple #[.int .u64 0, .bool false, .int .i64 0]) (by simp [results, Try.results45, go_sem]) rfl ⟨rfl, HS.out, Only.refl _ _⟩
  | some x =>
    rw [hx] at hkn
    rw [hkn]
    dsimp only
    have hxl := getT_mem hx
    have hln : (normP gr now x.p).soft.length ≤ 100000 := Nat.le_trans (Nat.le_trans (List.length_filter_le _ _) (h1.ln.2 x hxl.1)) hn
    have HF := Lib.hid (fresh_some h1 t ht hx hn)
    have HNR := Lib.hid (fun (w' : World) (ho : Only (fun x => own x = some t) w w') (k : Nat) (v : Value) (hk : mget none m t = some k) (hp : PgAt w' own t k (normP gr now x.p) v) =>
      (⟨b, own, m, nrm gr now t l, h1.nrm ho hx hk hp, (by
        intro y hy
        obtain ⟨z, hz, rfl⟩ := List.mem_map.1 hy
        split
        · exact (h2 z hz).norm (h1.lok.p z hz) gr now
        · exact h2 z hz), (nrm_adv gr now t l).symm, h4⟩ : St w' g gr now last n (advD gr now l) O))
    have H4 := Lib.hid h4
    obtain ⟨p, hpe⟩ : ∃ p, p = normP gr now x.p := ⟨_, rfl⟩
    rw [← hpe] at HNR hln ⊢
    obtain ⟨ph, ps⟩ := p
    have HPE := Lib.hid hpe
    clear hpe h1 h2 h4 hT hx hkn hxl hst0
    dsimp only at hln ⊢
    obtain ⟨R, hR⟩ : ∃ R, R = firstM since ps := ⟨_, rfl⟩
    rw [← hR]
    have HR := Lib.hid hR
    clear hR
    go_enter Try.func45, Try.ntmps45
    go_wp2_with (go_at_call 39; refine HC.out.mono ?_; rintro e w1 ⟨rfl, rfl⟩)
    refine HF.out.mono ?_
    rintro e w1 ⟨k, v, rfl, hk, pg, o1⟩
    rw [← HPE.out] at pg
    have hst := HNR.out _ o1 k v hk pg
    obtain ⟨pp, cap, rfl, hc1, hc2⟩ := pg.row.form
    have k0 := pg.blk.cell 0
    have k1 := pg.blk.cell 1
    have HPG := Lib.hid pg
    have HST := Lib.hid hst
    have HO1 := Lib.hid (o1.more (S' := O) (fun z hz => .inl ((H4.out z).2 (.inr (.inr (by rw [hz]; simp))))))
    dsimp only at k1 hc1
    clear HC HF HNR hk pg o1 hst
    go_wp2_with fail
    clear k0 k1
    go_loopg [29] ps.length (fun q s29 wr => ∃ i : Nat, q + i = ps.length ∧ s29 = .int .i64 (i : Int) ∧ firstM since (ps.drop i) = R ∧ Below w1.heap.size w1 wr)
    case atStart => exact ⟨0, rfl, rfl, by rw [List.drop_zero]; exact HR.out.symm, Below.refl _ _⟩
    case round =>
      obtain ⟨i, hq, rfl, hf, hb⟩ := hrel
      have HQ := Lib.hid hq
      have hil : i ≤ ps.length := by omega
      have HB := Lib.hid hb
      clear hq HR
      by_cases hlt : i < ps.length
      · obtain ⟨y, hy⟩ : ∃ y, ps[i]? = some y := ⟨ps[i], List.getElem?_eq_getElem hlt⟩
        obtain ⟨gs, o, cap', he, _, hgl, hcell, _⟩ := (HPG.out.below hb).row.at (by show 0 < ps.length; omega)
        injection he with he1 he2 he3
        subst he1 he3
        obtain ⟨d0, d1⟩ := softCells_get hy
        have e0 := hcell _ _ d0
        have e1 := hcell _ _ d1
        have hdr : ps.drop i = y :: ps.drop (i + 1) := by
          rw [List.drop_eq_getElem_cons hlt]
          congr 1
          rw [List.getElem?_eq_getElem hlt] at hy
          exact Option.some.inj hy
        rw [hdr, firstM_cons] at hf
        rw [← Nat.add_assoc] at e1
        clear he2 d0 d1 hcell hdr hb hy
        by_cases hs : since < y.st
        · rw [if_pos hs] at hf
          have HF := Lib.hid hf
          clear hf
          go_wp2_with fail
          refine bodyPost_ret (v := .tuple #[.int .u64 (y.tm : Int), .bool true, .int .i64 0]) (by simp [results, Try.results45, go_sem]) rfl ⟨by rw [← HF.out], ?_, ?_⟩
          · exact St.below (St.below HST.out HB.out) (by repeat (first | exact Below.refl _ _ | refine Below.setCell ?_ (by simp) _ | refine Below.alloc ?_ (by simp) _))
          · exact (HO1.out.trans (Only.of_below HB.out (fun _ => False)) (fun _ h => h.elim)).trans (Only.of_below (by repeat (first | exact Below.refl _ _ | refine Below.setCell ?_ (by simp) _ | refine Below.alloc ?_ (by simp) _)) (fun _ => False)) (fun _ h => h.elim)
        · rw [if_neg hs] at hf
          have HF := Lib.hid hf
          clear hf
          go_wp2_with fail
          go_roundg (gk - 1)
          case measure => have := HQ.out; omega
          case rel => exact ⟨i + 1, by have := HQ.out; omega, by go_num, HF.out, HB.out.alloc (by have := HB.out.size; omega) _⟩
      · obtain rfl : i = ps.length := by omega
        rw [List.drop_length] at hf
        have HF := Lib.hid hf
        clear hf hb
        go_wp2_with fail
        refine bodyPost_ret (v := .tuple #[.int .u64 0, .bool false, .int .i64 0]) (by simp [results, Try.results45, go_sem]) rfl ⟨by rw [← HF.out]; rfl, ?_, ?_⟩
        · exact St.below HST.out HB.out
        · exact HO1.out.trans (Only.of_below HB.out (fun _ => False)) (fun _ h => h.elim)
end Go.Proofs.Ytckdfnlleaifcaa
