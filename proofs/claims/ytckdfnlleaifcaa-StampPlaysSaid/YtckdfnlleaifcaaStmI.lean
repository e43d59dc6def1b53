/- List: what is known of all tags. -/
import Derived.Test.YtckdfnlleaifcaaStmH
import Derived.Test.YtckdfnlleaifcaaStmQ
namespace Go.Proofs.Ytckdfnlleaifcaa
set_option linter.unusedVariables false
open Go.RowKit Go.Maps Go.Sort

def evCells : List Ev → List Value
  | [] => []
  | e :: l => .int .i64 (e.x.tag : Int) :: .int .u64 (e.x.p.hard : Int) :: e.v :: evCells l
theorem evCells_len : ∀ l : List Ev, (evCells l).length = l.length * 3
  | [] => rfl
  | e :: l => by simp only [evCells, List.length_cons, evCells_len l]; omega
theorem evCells_get : ∀ {l : List Ev} {i : Nat} {e : Ev}, l[i]? = some e → (evCells l)[i * 3]? = some (.int .i64 (e.x.tag : Int)) ∧ (evCells l)[i * 3 + 1]? = some (.int .u64 (e.x.p.hard : Int)) ∧ (evCells l)[i * 3 + 2]? = some e.v
  | [], _, _, h => by simp at h
  | y :: l, 0, x, h => by
    simp at h
    subst h
    simp [evCells]
  | y :: l, i + 1, x, h => by
    have := evCells_get (l := l) (i := i) (e := x) (by simpa using h)
    rw [show (i + 1) * 3 = i * 3 + 1 + 1 + 1 by omega]
    simp only [evCells, List.getElem?_cons_succ]
    exact this
theorem evCells_app : ∀ (l m : List Ev), evCells (l ++ m) = evCells l ++ evCells m
  | [], m => rfl
  | e :: l, m => by simp only [List.cons_append, evCells, evCells_app l m]
theorem lies_blk3 {w : World} {g c : Nat} {e : TypeId} {x y z : Value} (h : Blk w g e #[x, y, z]) : Lies w 3 (.slice (some ⟨g, 0, none⟩) 1 c) 1 [x, y, z] := by
  refine ⟨_, c, rfl, rfl, .inr ⟨_, rfl, fun j u hj => ?_⟩⟩
  rw [addr_add, Nat.zero_add]
  rw [h.cell j]
  simpa using hj
/-- Each entry's soft purges lie in a row of one's own, from block B on. -/
def EvOwn (w : World) (B : Nat) (E : List Ev) : Prop := ∀ e ∈ E, w.ownsRow B 52 2 e.v e.x.p.soft.length (softCells e.x.p.soft)
theorem EvOwn.below {w w' : World} {B : Nat} {E : List Ev} (h : EvOwn w B E) (hb : Below w.heap.size w w') : EvOwn w' B E := fun e he => ownsRow_below (h e he) hb
theorem EvOwn.only {w w' : World} {B : Nat} {E : List Ev} {S : Nat → Prop} (h : EvOwn w B E) (ho : Only S w w') (hS : ∀ z, S z → z < B) : EvOwn w' B E :=
  fun e he => ownsRow_only (h e he) ho (fun z hz hs => by have := ((h e he).lt z hz).1; have := hS z hs; omega)
theorem stInfo : (Try.prog.info? 43).map (fun i => (i.zero, i.size, i.bytes)) = some (some (.agg #[.int .i64 0, .int .u64 0, .slice none 0 0]), 3, 40) := by kernel_rfl
/-- The list's own row is none of its entries'. -/
def DJ (v : Value) (E : List Ev) : Prop := ∀ e ∈ E, ∀ z, e.v.ownBlock = some z → v.ownBlock ≠ some z
/-- A list of what is known, on its own. -/
def ListP (w : World) (O : Nat → Prop) (g gr now last n : Nat) (d : List Tg) (e : Ending) (w' : World) : Prop :=
  ∃ v B E, e = .returned v ∧ unE E = d ∧ w'.ownsRow B 43 3 v E.length (evCells E) ∧ EvOwn w' B E ∧ DJ v E ∧ w.heap.size ≤ B ∧ St w' g gr now last n d O ∧ Only O w w'
set_option maxHeartbeats 4000000 in
set_option maxRecDepth 100000 in
theorem list_any {w : World} {g gr now last n : Nat} {d : List Tg} {O : Nat → Prop} (h : St w g gr now last n d O) (hn : n ≤ 100000) :
    Calls Try.prog 21 #[.pointer (some ⟨g, 0, none⟩)] w (ListP w O g gr now last n d) := by
  have HT := Lib.hid (tags_any h hn)
  obtain ⟨hlok, hlne, hdl, hsl⟩ := h.lok
  have HL := Lib.hid hlok
  have HSL := Lib.hid hsl
  have HOL := Lib.hid (fun x (hx : O x) => h.lt hx)
  have HS := Lib.hid h
  obtain ⟨i0, hi, hp0⟩ := Option.map_eq_some_iff.1 stInfo
  have hz0 : i0.zero = some (.agg #[.int .i64 0, .int .u64 0, .slice none 0 0]) := congrArg (·.1) hp0
  have hz1 : i0.size = 3 := congrArg (·.2.1) hp0
  have hz2 : i0.bytes = 40 := congrArg (·.2.2) hp0
  clear h hlok hlne hsl hp0
  go_enter Try.func21, Try.ntmps21
  go_wp2_with fail
  refine HT.out.mono ?_
  rintro e w1 ⟨tv, rfl, htv, hb1⟩
  obtain ⟨tp, tc, htf⟩ := own_form htv
  subst htf
  have hst1 := St.below HS.out hb1
  have hs1 := hb1.size
  have HTV := Lib.hid htv
  have HB1 := Lib.hid hb1
  have HS1 := Lib.hid hst1
  have htl : (tagI d).length = d.length := by unfold tagI; rw [List.length_map]
  rw [htl]
  have HTLEN := Lib.hid htl
  clear htv hb1 hst1 HT HS htl
  go_wp2_with fail
  go_loopg [3, 11] d.length (fun q s3 s11 wr => ∃ (i : Nat) (E : List Ev), q + i = d.length ∧ s11 = .int .i64 (i : Int) ∧ unE E = d.take i ∧ wr.ownsRow w1.heap.size 43 3 s3 E.length (evCells E) ∧ EvOwn wr w1.heap.size E ∧ DJ s3 E ∧ St wr g gr now last n d O ∧ Only O w1 wr)
  case atStart => exact ⟨0, [], rfl, rfl, by rw [List.take_zero]; rfl, ⟨rfl, .inl ⟨rfl, rfl⟩⟩, (fun e he => by cases he), (fun e he => by cases he), HS1.out, Only.refl _ _⟩
  case round =>
    obtain ⟨i, E, hq, rfl, hE, hown, hev, hdj, hst, hon⟩ := hrel
    have HQ := Lib.hid hq
    have HE := Lib.hid hE
    have HOWN := Lib.hid hown
    have HEV := Lib.hid hev
    have HDJ := Lib.hid hdj
    have HST := Lib.hid hst
    have HON := Lib.hid hon
    have hil : i ≤ d.length := by omega
    have hEl : E.length = i := by
      have := congrArg List.length hE
      unfold unE at this
      rw [List.length_map, List.length_take] at this
      omega
    have HEL := Lib.hid hEl
    have hEn : E.length ≤ 100000 := by omega
    clear hEl
    obtain ⟨p0, cap0, hv0⟩ := own_form hown
    subst hv0
    clear hq hE hown hev hdj hst hon
    by_cases hlt : i < d.length
    · obtain ⟨x, hx⟩ : ∃ x, d[i]? = some x := ⟨d[i], List.getElem?_eq_getElem hlt⟩
      have hxm := List.mem_of_getElem? hx
      have htg := HL.out.tag x hxm
      have hkn : knownP x.tag d = x.p := by unfold knownP; rw [getT_of HL.out.up hxm]
      have htw : wr.ownsRow w.heap.size 3 1 (.slice tp (tagI d).length tc) (tagI d).length ((tagI d).map (Value.int .i64)) := ownsRow_only HTV.out HON.out (fun z hz ho => by have := (HTV.out.lt z hz).1; have := HOL.out z ho; omega)
      obtain ⟨tg, tcap, hte, _, htl2⟩ := htw.form (by rw [HTLEN.out]; omega)
      injection hte with ht1 ht2 ht3
      subst ht1
      have tcell := htw.cellAt i (by rw [HTLEN.out]; omega)
      have htgi : ((tagI d).map (Value.int .i64))[i]? = some (.int .i64 (x.tag : Int)) := by
        unfold tagI
        rw [List.getElem?_map, List.getElem?_map, hx]
        rfl
      rw [htgi] at tcell
      have HOF := Lib.hid (of_ok HST.out x.tag htg hn)
      rw [hkn] at HOF
      have HXL := Lib.hid (HSL.out x hxm)
      have HTK : Hid (d.take (i + 1) = d.take i ++ [x]) := by unfold Hid; rw [List.take_add_one, hx]; rfl
      clear ht2 ht3 htw htgi hxm hx hkn HTV
      obtain ⟨xt, ph, ps⟩ := x
      dsimp only at tcell HOF htg HXL
      go_wp2_with fail
      refine HOF.out.mono ?_
      rintro e w2 ⟨v2, B2, rfl, ow2, hB2, st2, on2⟩
      obtain ⟨p2, c2, hv2⟩ := own_form ow2
      subst hv2
      have hBw : w1.heap.size ≤ B2 := Nat.le_trans HON.out.size hB2
      have HO2 := Lib.hid (ownsRow_only HOWN.out on2 (fun z hz ho => by have := (HOWN.out.lt z hz).1; have := HOL.out z ho; omega))
      have HEV2 := Lib.hid (HEV.out.only on2 (fun z hz => by have := HOL.out z hz; omega))
      have HR2 := Lib.hid (ownsRow_low ow2 hBw)
      have HST2 := Lib.hid st2
      have HON2 := Lib.hid (HON.out.trans on2 (fun z hz => .inl hz))
      have hs2 : w1.heap.size ≤ w2.heap.size := HON2.out.size
      have HV2 : Hid (∀ z, (Value.slice p2 ps.length c2).ownBlock = some z → wr.heap.size ≤ z ∧ z < w2.heap.size) := fun z hz => ⟨Nat.le_trans hB2 (ow2.lt z hz).1, (ow2.lt z hz).2⟩
      have HV0 : Hid (∀ z, (Value.slice p0 E.length cap0).ownBlock = some z → z < wr.heap.size ∧ w1.heap.size ≤ z) := fun z hz => ⟨(HOWN.out.lt z hz).2, (HOWN.out.lt z hz).1⟩
      have HEL2 : Hid (∀ e ∈ E, ∀ z, e.v.ownBlock = some z → z < wr.heap.size) := fun e he z hz => ((HEV.out e he).lt z hz).2
      have hwr2 : wr.heap.size ≤ w2.heap.size := on2.size
      unfold stV
      have HLIES := Lib.hid (fun c => lies_blk3 (c := c) (show Blk ((w2.alloc (.cells #[.int .i64 (xt : Int), .int .u64 (ph : Int), .slice p2 ps.length c2] 43)).alloc (.cells #[.int .i64 (xt : Int), .int .u64 (ph : Int), .slice p2 ps.length c2] 43)) (w2.heap.size + 1) 43 #[.int .i64 (xt : Int), .int .u64 (ph : Int), .slice p2 ps.length c2] by
        simpa using Blk.new (w2.alloc (.cells #[.int .i64 (xt : Int), .int .u64 (ph : Int), .slice p2 ps.length c2] 43)) 43 #[.int .i64 (xt : Int), .int .u64 (ph : Int), .slice p2 ps.length c2]))
      clear HOF HOWN HEV HST HON tcell ow2 st2 on2 hB2 hBw
      go_wp2_with (at_builtin; refine wpList_append_lying _ rfl _ _ 48 rfl w1.heap.size 43 i0 (.agg #[.int .i64 0, .int .u64 0, .slice none 0 0]) 3 40 Try.underlying48 hi hz0 hz1 hz2 rfl (by decide) _ _ _ rfl ((HO2.out.alloc _).alloc _) _ 1 [.int .i64 (xt : Int), .int .u64 (ph : Int), .slice p2 ps.length c2] rfl (HLIES.out _) (by intro u hu; simp at hu; rcases hu with rfl | rfl | rfl <;> rfl) (by unfold maxLen; omega) (by omega) (by simp; omega) ?_)
      intro v' w3 hown' hg3 hat
      have HG3 := Lib.hid hg3
      have hon3 : Only (fun z => (Value.slice p0 E.length cap0).ownBlock = some z) w2 w3 := ((((Only.refl (fun z => (Value.slice p0 E.length cap0).ownBlock = some z) w2).alloc _).alloc _).trans (Only.of_grownR (S := fun z => (Value.slice p0 E.length cap0).ownBlock = some z) hg3 (fun z hz => hz)) (fun z hz => .inl hz))
      have HR3 := Lib.hid (ownsRow_only HR2.out hon3 (fun z hz ho => by have h1 := HV2.out z hz; have h2 := HV0.out z ho; omega))
      have HEV3 : Hid (EvOwn w3 w1.heap.size E) := fun e he => ownsRow_only (HEV2.out e he) hon3 (fun z hz ho => HDJ.out e he z hz ho)
      have HST3 := Lib.hid (St.other HST2.out hon3 (fun z hz ho => by have h1 := HOL.out z hz; have h2 := HV0.out z ho; omega))
      have HON3 := Lib.hid (HON2.out.trans hon3 (fun z hz => .inr (HV0.out z hz).2))
      have HE3 : Hid (unE (E ++ [⟨⟨xt, ⟨ph, ps⟩⟩, .slice p2 ps.length c2⟩]) = d.take (i + 1)) := by
        unfold Hid unE
        rw [List.map_append, HTK.out]
        have := HE.out
        unfold unE at this
        rw [this]
        rfl
      have HO3 : Hid (w3.ownsRow w1.heap.size 43 3 v' (E ++ [(⟨⟨xt, ⟨ph, ps⟩⟩, .slice p2 ps.length c2⟩ : Ev)]).length (evCells (E ++ [⟨⟨xt, ⟨ph, ps⟩⟩, .slice p2 ps.length c2⟩]))) := by
        unfold Hid
        rw [List.length_append, evCells_app]
        exact hown'
      have HEV4 : Hid (EvOwn w3 w1.heap.size (E ++ [⟨⟨xt, ⟨ph, ps⟩⟩, .slice p2 ps.length c2⟩])) := fun e he => by
        rcases List.mem_append.1 he with he | he
        · exact HEV3.out e he
        · rw [List.mem_singleton.1 he]; exact HR3.out
      have HDJ4 : Hid (DJ v' (E ++ [⟨⟨xt, ⟨ph, ps⟩⟩, .slice p2 ps.length c2⟩])) := fun e he z hz hv => by
        have hzl : z < w2.heap.size := by
          rcases List.mem_append.1 he with he | he
          · have := HEL2.out e he z hz; omega
          · rw [List.mem_singleton.1 he] at hz; exact (HV2.out z hz).2
        rcases hat with h1 | h1
        · rcases List.mem_append.1 he with he | he
          · exact HDJ.out e he z hz (h1 ▸ hv)
          · rw [List.mem_singleton.1 he] at hz
            have h2 := HV2.out z hz
            have h3 := HV0.out z (h1 ▸ hv)
            omega
        · rw [h1] at hv
          have h2 := Option.some.inj hv
          omega
      clear hown' hg3 hat hon3 HG3 HO2 HEV2 HR2 HST2 HON2 HDJ HR3 HEV3 HLIES
      go_wp2_with fail
      go_roundg (gk - 1)
      case measure => have := HQ.out; omega
      case rel => exact ⟨i + 1, _, by have := HQ.out; omega, by go_num, HE3.out, HO3.out, HEV4.out, HDJ4.out, HST3.out, HON3.out⟩
    · obtain rfl : i = d.length := by omega
      go_wp2_with fail
      go_ret
      have hE := HE.out
      rw [List.take_length] at hE
      exact ⟨_, w1.heap.size, E, rfl, hE, HOWN.out, HEV.out, HDJ.out, hs1, HST.out, (Only.of_below HB1.out O).trans HON.out (fun z hz => .inl hz)⟩
end Go.Proofs.Ytckdfnlleaifcaa
