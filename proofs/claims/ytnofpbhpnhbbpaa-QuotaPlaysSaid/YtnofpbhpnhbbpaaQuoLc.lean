/- The document's book in memory: clients. -/
import Derived.Test.YtnofpbhpnhbbpaaQuoLa
import Derived.Test.YtnofpbhpnhbbpaaSlc
import Derived.Sort.Walk0
namespace Go.Proofs.Ytnofpbhpnhbbpaa
set_option linter.unusedVariables false
open Go.RowKit Go.Maps Go.Sort

theorem strInfo : (Try.prog.info? 9).map (fun i => (i.zero, i.size, i.bytes)) = some (some (.string ⟨#[]⟩), 1, 16) := by kernel_rfl
theorem owns_form {w : World} {B : Nat} {e : TypeId} {k : Nat} {v : Value} {n : Nat} {xs : List Value} (h : w.ownsRow B e k v n xs) : ∃ p cap, v = .slice p n cap := by
  rcases h.2 with ⟨rfl, h0⟩ | ⟨g, cap, cur, rfl, _⟩
  · exact ⟨none, 0, by rw [h0]⟩
  · exact ⟨_, _, rfl⟩
theorem row_cap1 {w : World} {base n cap : Nat} {p : Option Addr} {e : TypeId} {xs : List Value} (h : w.ownsRow base e 1 (.slice p n cap) n xs) : n ≤ cap := by
  rcases h.2 with ⟨he, h0⟩ | ⟨g, cap', row, he, _, _, hn, _⟩
  · omega
  · injection he with _ _ he3
    omega
theorem row_lt1 {w : World} {base g n cap : Nat} {e : TypeId} {xs : List Value} (h : w.ownsRow base e 1 (.slice (some ⟨g, 0, none⟩) n cap) n xs) : g < w.heap.size := (h.lt g rfl).2
theorem row_lim {w : World} {base n cap : Nat} {p : Option Addr} {e : TypeId} {xs : List Value} (h : w.ownsRow base e 1 (.slice p n cap) n xs) : cap ≤ maxLen := by
  rcases h.2 with ⟨he, _⟩ | ⟨g', cap', row, he, _, _, _, hc, _⟩
  · injection he with _ _ he3; omega
  · injection he with _ _ he3; omega
theorem reads_drop {w : World} {base g cap : Nat} {e : TypeId} {U : List (List UInt8)} (h : w.ownsRow base e 1 (.slice (some ⟨g, 0, none⟩) U.length cap) U.length (U.map encStr)) (a : Nat) (hU : U.length ≤ 100000) : Reads w (.slice (some ⟨g, a, none⟩) (U.length - a) (cap - a)) ((U.drop a).map encStr) := by
  have hcap := row_cap1 h
  have hlt := row_lt1 h
  have hlim := row_lim h
  refine ⟨_, cap - a, by rw [List.length_map, List.length_drop], by rw [List.length_map, List.length_drop]; unfold maxLen at hlim; omega, .inr ⟨g, a, rfl, hlt, by rw [List.length_map, List.length_drop]; omega, fun i y hy => ?_⟩⟩
  rw [List.getElem?_map, List.getElem?_drop, ← List.getElem?_map] at hy
  have hi := (List.getElem?_eq_some_iff.1 hy).1
  rw [List.length_map] at hi
  exact (h.cellAt (a + i) (by omega)).trans hy
theorem reads_take {w : World} {base g cap : Nat} {e : TypeId} {U : List (List UInt8)} (h : w.ownsRow base e 1 (.slice (some ⟨g, 0, none⟩) U.length cap) U.length (U.map encStr)) (a : Nat) (ha : a ≤ U.length) (hU : U.length ≤ 100000) : Reads w (.slice (some ⟨g, 0, none⟩) a cap) ((U.take a).map encStr) := by
  have hcap := row_cap1 h
  have hlt := row_lt1 h
  have hlim := row_lim h
  have hl : ((U.take a).map encStr).length = a := by rw [List.length_map, List.length_take, Nat.min_eq_left ha]
  refine ⟨_, cap, by rw [hl], by rw [hl]; unfold maxLen at hlim; omega, .inr ⟨g, 0, rfl, hlt, by rw [hl]; omega, fun i y hy => ?_⟩⟩
  have hi := (List.getElem?_eq_some_iff.1 hy).1
  rw [hl] at hi
  rw [List.getElem?_map, List.getElem?_take, if_pos hi, ← List.getElem?_map] at hy
  rw [Nat.zero_add]
  exact (h.cellAt i (by omega)).trans hy
theorem step_append_reads {P : Program} {ops : Array Oper} {o : Oper} {a : Act} {w : World} {K : Act → World → Prop} {Q : Exit → Act → World → Prop} {E : Prop} (hgd : o.guard = none) (s x : Operand) (t : TypeId)
    (ho : o.op = .call { callee := .builtin .append, args := #[s, x], argTypes := #[t, t] })
    (base : Nat) (e : TypeId) (i : TypeInfo) (z : Value) (bytes : Nat) (ht : P.underlying t = some (.slice e)) (hi : P.info? e = some i) (hz : i.zero = some z)
    (hsize : i.size = 1) (hby : i.bytes = bytes) (hzs : z.cells.size = 1)
    (v : Value) (n : Nat) (xs : List Value) (hs : a.eval s = v) (hown : w.ownsRow base e 1 v n xs)
    (y : Value) (news : List Value) (hx : a.eval x = y) (hr : Reads w y news) (h1 : ∀ u ∈ news, u.oneCell' = true)
    (h63 : n + news.length ≤ maxLen) (hbytes : (n + news.length) * bytes ≤ 140737488355328) (hbase : base ≤ w.heap.size)
    (h : ∀ v' w', w'.ownsRow base e 1 v' (n + news.length) (xs ++ news) → w.grownBy w' v.ownBlock → (v'.ownBlock = v.ownBlock ∨ v'.ownBlock = some w.heap.size) → K (a.put o.dst v') w') :
    if Region.wanted o (yielded ops a.tmps) = true then Oper.wp P o a w K Q else E := by
  have hw : Region.wanted o (yielded ops a.tmps) = true := by simp [Region.wanted, hgd]
  rw [if_pos hw]
  exact wp_append_reads w s x t ho base e i z bytes ht hi hz hsize hby hzs v n xs hs hown y news hx hr h1 h63 hbytes hbase h
theorem insU_len (x : List UInt8) : ∀ l, (insU x l).length ≤ l.length + 1
  | [] => by simp [insU]
  | y :: r => by
    unfold insU
    split
    · have := insU_len x r; simp; omega
    · split <;> simp
theorem clientsL_take {W : Nat} {L : List Alw} {k : Nat} {x : Alw} (h : L[k]? = some x) : clientsL W (L.take (k + 1)) = if nearB W x = true then insU x.c (clientsL W (L.take k)) else clientsL W (L.take k) := by
  rw [List.take_add_one, h]
  unfold clientsL
  rw [List.foldl_append]
  rfl
theorem clientsL_len (W : Nat) : ∀ (L : List Alw) (out : List (List UInt8)), (L.foldl (fun out x => if nearB W x = true then insU x.c out else out) out).length ≤ L.length + out.length
  | [], out => by simp
  | x :: L, out => by
    rw [List.foldl_cons]
    have h1 := clientsL_len W L (if nearB W x = true then insU x.c out else out)
    have h2 := insU_len x.c out
    simp only [List.length_cons]
    split at h1
    · rename_i hh; rw [if_pos hh]; omega
    · rename_i hh; rw [if_neg hh]; omega
def ClP (w : World) (l : List (List UInt8)) (e : Ending) (w' : World) : Prop := ∃ v, e = .returned v ∧ Reads w' v (l.map encStr) ∧ Below w.heap.size w w'
set_option maxHeartbeats 8000000 in
set_option maxRecDepth 100000 in
theorem mclients_any {w : World} {B M : Nat} {r : Rl} {now : Nat} {q : Option Addr} {cap : Nat} {L : List Alw} (h : Md w B M r now q cap L) (hr : RlOk r) (hl : L.length ≤ 100) (hv : ∀ x ∈ L, x.v ≤ 9223372036854775808) (ht : now ≤ 9223372036854775808) :
    Calls Try.prog 19 #[.pointer (some ⟨M, 0, none⟩)] w (ClP w (clientsL (now / r.P) L)) := by
  have hP := hr.P
  have hP2 := hr.P2
  have hPn : r.P ≠ 0 := by omega
  have hq : now / r.P ≤ 9223372036854775808 := Nat.le_trans (Nat.div_le_self _ _) ht
  obtain ⟨V, hV⟩ : ∃ V, V = now / r.P := ⟨_, rfl⟩
  have hdiv : (now : Int) / (r.P : Int) = (V : Int) := by rw [hV]; simp
  rw [← hV] at hq ⊢
  have hwq : IntKind.u64.wrap (V : Int) = (V : Int) := IntWalk.u64_in _ (by omega)
  have HM := Lib.hid h
  have HV := Lib.hid hv
  obtain ⟨i0, hi, hz0, hz1, hz2⟩ := info_parts strInfo
  clear h hv hr hV
  go_enter Try.func19, Try.ntmps19
  go_wp2_with fail
  go_loopg [3, 4] L.length (fun p s3 s4 wr => ∃ k : Nat, k ≤ L.length ∧ p + k = L.length ∧ s4 = .int .i64 (k : Int) ∧ wr.ownsRow w.heap.size 9 1 s3 (clientsL V (L.take k)).length ((clientsL V (L.take k)).map encStr) ∧ Below w.heap.size w wr)
  case atStart => exact ⟨0, Nat.zero_le _, rfl, rfl, World.ownsRow_nil _ _ _ _, Below.refl _ _⟩
  case round => as_aux_lemma =>
    obtain ⟨k, hkl, hp, rfl, hown, hb⟩ := hrel
    have HP := Lib.hid hp
    have HB := Lib.hid hb
    have HOWN := Lib.hid hown
    have hM := HM.out.below hb
    obtain ⟨c0, c1, c2, c3, c4⟩ := hM.cells
    obtain ⟨GK, hGK⟩ : ∃ GK, GK = gk := ⟨_, rfl⟩
    have HGK := Lib.hid hGK
    clear hGK
    by_cases hlt : k < L.length
    · obtain ⟨x, hx⟩ : ∃ x, L[k]? = some x := ⟨L[k], List.getElem?_eq_getElem hlt⟩
      obtain ⟨g, rfl, hg, d0, d1, d2⟩ := hM.at hx
      have hxv := HV.out x (List.mem_of_getElem? hx)
      have HST := Lib.hid (clientsL_take (W := V) hx)
      have hul : (clientsL V (L.take k)).length ≤ 100 := by
        have := clientsL_len V (L.take k) []
        rw [List.length_take] at this
        unfold clientsL
        simp at this ⊢
        omega
      obtain ⟨xc, xv, xk⟩ := x
      dsimp only at hxv d0 d1 d2
      have HMw := Lib.hid hM
      clear hp hb hown hM hx
      generalize clientsL V (L.take k) = U at *
      obtain ⟨p3, c3', rfl⟩ := owns_form HOWN.out
      go_upto_region 6 with (fail)
      have HX := Lib.hid (Blk.new wr 83 #[.string ⟨xc.toArray⟩, .int .u64 (xv : Int), .int .i64 (xk : Int)])
      have HM1 := Lib.hid (HMw.out.below ((Below.refl wr.heap.size wr).alloc (Nat.le_refl _) (.cells #[.string ⟨xc.toArray⟩, .int .u64 (xv : Int), .int .i64 (xk : Int)] 83)))
      have HB1 := Lib.hid (HB.out.alloc HB.out.size (.cells #[.string ⟨xc.toArray⟩, .int .u64 (xv : Int), .int .i64 (xk : Int)] 83))
      have HO1 := Lib.hid (ownsRow_below HOWN.out ((Below.refl wr.heap.size wr).alloc (Nat.le_refl _) (.cells #[.string ⟨xc.toArray⟩, .int .u64 (xv : Int), .int .i64 (xk : Int)] 83)))
      obtain ⟨W1, hW1⟩ : ∃ W1, wr.alloc (.cells #[.string ⟨xc.toArray⟩, .int .u64 (xv : Int), .int .i64 (xk : Int)] 83) = W1 := ⟨_, rfl⟩
      rw [hW1] at HX HM1 HB1 HO1 ⊢
      have hzb : w.heap.size ≤ wr.heap.size := HB.out.size
      clear hW1 c0 c1 c2 c3 c4 d0 d1 d2 HMw HOWN HB
      obtain ⟨c0, c1, c2, c3, c4⟩ := HM1.out.cells
      go_quiet (fail)
      have HX2 := Lib.hid (show Blk (W1.drewN nq) _ _ _ from HX.out.drewN nq)
      have HB2 := Lib.hid (below_drewN HB1.out nq)
      have HO2 : Hid ((W1.drewN nq).ownsRow w.heap.size 9 1 (.slice p3 U.length c3') U.length (U.map encStr)) := HO1.out
      obtain ⟨W2, hW2⟩ : ∃ W2, W1.drewN nq = W2 := ⟨_, rfl⟩
      rw [hW2] at HX2 HB2 HO2 ⊢
      clear hW2 c0 c1 c2 c3 c4 HX HM1 HB1 HO1 W1 nq
      generalize wr.heap.size = Z at *
      have y0 := HX2.out.cell 0
      have y1 := HX2.out.cell 1
      by_cases hnear : xv = V ∨ xv + 1 = V
      · have HN : Hid (nearB V ⟨xc, xv, xk⟩ = true) := by
          unfold Hid nearB
          rw [Bool.or_eq_true, decide_eq_true_eq, decide_eq_true_eq]
          exact hnear
        have HST2 : Hid (clientsL V (L.take (k + 1)) = insU xc U) := by
          unfold Hid
          rw [HST.out, HN.out, if_pos rfl]
        have hne : ((xv : Int) != (V : Int)) = false ∨ (((xv : Int) != (V : Int)) = true ∧ ((xv : Int) + 1 != (V : Int)) = false) := by
          rcases Nat.lt_trichotomy xv V with h | h | h
          · right; constructor
            · simp; omega
            · simp; omega
          · left; rw [h]; simp
          · omega
        clear hnear HN HST
        have hcells : Hid (∀ a y, U[a]? = some y → ∀ W, Below W2.heap.size W2 W → ∃ g, p3 = some ⟨g, 0, none⟩ ∧ W.cell? ⟨g, a, none⟩ = some (.string ⟨y.toArray⟩)) := by
          intro a y hy W hbW
          have hal := (List.getElem?_eq_some_iff.1 hy).1
          obtain ⟨g, cg, he, hgb, hgl⟩ := HO2.out.form (by omega)
          injection he with he1 _ he3
          subst he1
          refine ⟨g, rfl, ?_⟩
          exact (hbW.cell (p := ⟨g, a, none⟩) hgl).trans ((HO2.out.cellAt a (by omega)).trans (encStr_getElem U a y hy))
        go_upto_region 7 with (fail)
        go_cut [45] (fun s45 wx => s45 = .bool false ∧ W2 = wx)
        case first => as_aux_lemma =>
          rcases hne with e1 | ⟨e1, e2⟩
          · go_wp2_with fail
            go_meet
            exact ⟨rfl, rfl⟩
          · go_wp2_with fail
            go_meet
            exact ⟨rfl, rfl⟩
        case rest => as_aux_lemma =>
          obtain ⟨rfl, rfl⟩ := hcut
          have HCZ := Lib.hid (show W2.cell? ⟨Z, 0, none⟩ = some (.string ⟨xc.toArray⟩) from HX2.out.cell 0)
          have hZ2 : Z < W2.heap.size := HX2.out.lt
          have hul5 : U.length ≤ 100000 := by omega
          clear y0 y1 hne HX2
          go_wp2_with fail
          go_loopg [7] U.length (fun p s7 wi => ∃ a : Nat, a ≤ atU xc U ∧ p + a = U.length ∧ s7 = .int .i64 (a : Int) ∧ Below W2.heap.size W2 wi)
          case atStart => exact ⟨0, Nat.zero_le _, rfl, rfl, Below.refl _ _⟩
          case round => as_aux_lemma =>
            obtain ⟨a, hat, hpa, rfl, hbi⟩ := hrel
            have hlen := atU_le xc U
            have ha : a ≤ U.length := by omega
            have HPA := Lib.hid hpa
            have hcz : wr.cell? ⟨Z, 0, none⟩ = some (.string ⟨xc.toArray⟩) := (hbi.cell (p := ⟨Z, 0, none⟩) hZ2).trans HCZ.out
            have hZ : Z < wr.heap.size := Nat.lt_of_lt_of_le hZ2 hbi.size
            have HBI := Lib.hid hbi
            have HBW := Lib.hid (HB2.out.trans (hbi.mono HB2.out.size))
            have HOW := Lib.hid (ownsRow_below HO2.out hbi)
            clear hpa
            by_cases hal : a < U.length
            · obtain ⟨y, hy⟩ : ∃ y, U[a]? = some y := ⟨U[a], List.getElem?_eq_getElem hal⟩
              obtain ⟨g', rfl, hcu⟩ := hcells.out a y hy wr hbi
              have hya : U[a] = y := by rw [List.getElem?_eq_getElem hal] at hy; exact Option.some.inj hy
              have hbel := atU_below hal hat
              rw [hya] at hbel
              by_cases hyx : y < xc
              · have c1 : Op.bytesLess y xc = true := by rw [bytesLess_eq]; exact decide_eq_true hyx
                have ha2 : a < atU xc U := hbel.1 hyx
                clear hy hya hbel hyx hbi
                go_wp2_with fail
                go_quiet (fail)
                go_wp2_with fail
                go_roundg (gk - 1)
                case measure => have := HPA.out; omega
                case rel => exact ⟨a + 1, by omega, by have := HPA.out; omega, by go_num, below_drewN HBI.out _⟩
              · have c1 : Op.bytesLess y xc = false := by rw [bytesLess_eq]; exact decide_eq_false hyx
                have hEQ : a = atU xc U := by
                  have : ¬ a < atU xc U := fun h => hyx (hbel.2 h)
                  omega
                have HAT := Lib.hid hEQ
                have b1 : (a : Int) ≤ (c3' : Int) := by have := row_cap1 HOW.out; omega
                have b2 : (U.length : Int) ≤ (c3' : Int) := by have := row_cap1 HOW.out; omega
                have b3 : (a : Int) ≤ (U.length : Int) := by omega
                have b4 : ¬ c3' = a := by have := row_cap1 HOW.out; omega
                have b5 : ((a : Int) == (U.length : Int)) = false := by simp; omega
                by_cases he : y = xc
                · have HIN : Hid (insU xc U = U) := by
                    unfold Hid
                    rw [insU_at, ← HAT.out, hy, he, if_pos rfl]
                  have e3 : (y != xc) = false := by rw [he]; simp
                  have e4 : (y == xc) = true := by rw [he]; simp
                  clear hy hya hbel hyx hbi hEQ he
                  go_wp2_with fail
                  go_quiet (fail)
                  have hcz2 : (wr.drewN nq).cell? ⟨Z, 0, none⟩ = some (.string ⟨xc.toArray⟩) := hcz
                  have hcu2 : (wr.drewN nq).cell? ⟨g', a, none⟩ = some (.string ⟨y.toArray⟩) := hcu
                  have hbw2 : Below w.heap.size w (wr.drewN nq) := below_drewN HBW.out _
                  have how2 : (wr.drewN nq).ownsRow w.heap.size 9 1 (.slice (some ⟨g', 0, none⟩) U.length c3') U.length (U.map encStr) := HOW.out
                  have hz2 : Z < (wr.drewN nq).heap.size := hZ
                  clear hcz hcu hZ HBW HOW HBI
                  obtain ⟨W9, hW9⟩ : ∃ W9, wr.drewN nq = W9 := ⟨_, rfl⟩
                  rw [hW9] at hcz2 hcu2 hbw2 how2 hz2 ⊢
                  have hcz := hcz2
                  have hZ := hz2
                  have HBW := Lib.hid hbw2
                  have HOW := Lib.hid how2
                  clear hW9 hcz2 hbw2 how2 hz2 nq
                  go_wp2_with fail
                  go_quiet (fail)
                  go_wp2_with fail
                  go_roundg (GK - 1)
                  case measure => have := HP.out; have := HGK.out; omega
                  case rel => exact ⟨k + 1, by omega, by have := HP.out; have := HGK.out; omega, by go_num, by rw [HST2.out, HIN.out]; exact HOW.out, below_drewN HBW.out _⟩
                · have HINS : Hid (insU xc U = U.take a ++ xc :: U.drop a) := by
                    unfold Hid
                    rw [insU_at, ← HAT.out, hy, if_neg (fun h => he (Option.some.inj h))]
                  have e3 : (y != xc) = true := by simpa using he
                  have e4 : (y == xc) = false := by simpa using he
                  clear hy hya hbel hyx hbi hEQ he
                  go_wp2_with fail
                  go_quiet (fail)
                  have hcz2 : (wr.drewN nq).cell? ⟨Z, 0, none⟩ = some (.string ⟨xc.toArray⟩) := hcz
                  have hcu2 : (wr.drewN nq).cell? ⟨g', a, none⟩ = some (.string ⟨y.toArray⟩) := hcu
                  have hbw2 : Below w.heap.size w (wr.drewN nq) := below_drewN HBW.out _
                  have how2 : (wr.drewN nq).ownsRow w.heap.size 9 1 (.slice (some ⟨g', 0, none⟩) U.length c3') U.length (U.map encStr) := HOW.out
                  have hz2 : Z < (wr.drewN nq).heap.size := hZ
                  clear hcz hcu hZ HBW HOW HBI
                  obtain ⟨W9, hW9⟩ : ∃ W9, wr.drewN nq = W9 := ⟨_, rfl⟩
                  rw [hW9] at hcz2 hcu2 hbw2 how2 hz2 ⊢
                  have hcz := hcz2
                  have hZ := hz2
                  have HBW := Lib.hid hbw2
                  have HOW := Lib.hid how2
                  clear hW9 hcz2 hbw2 how2 hz2 nq
                  go_wp2_with fail
                  go_quiet (fail)
                  go_wp2_with fail
                  have hcell2 : (W9.drewN nq).cell? ⟨Z, 0, none⟩ = some (.string ⟨xc.toArray⟩) := hcz
                  have HB2 : Hid (Below w.heap.size w (W9.drewN nq)) := below_drewN HBW.out _
                  have HO2 : Hid ((W9.drewN nq).ownsRow w.heap.size 9 1 (Value.slice (some ⟨g', 0, none⟩) U.length c3') U.length (U.map encStr)) := HOW.out
                  have hZ1 : Z < (W9.drewN nq).heap.size := hZ
                  clear hcz hZ
                  generalize W9.drewN nq = W1 at *
                  have hgW : g' < W1.heap.size := row_lt1 HO2.out
                  have hwW := HB2.out.size
                  have HN1 : Hid ((W1.drew.alloc (.cells #[.string ⟨xc.toArray⟩] 9)).ownsRow w.heap.size 9 1 (.slice (some ⟨W1.heap.size, 0, none⟩) 1 1) 1 [encStr xc]) := owns_of_block hwW (Blk.new W1.drew 9 #[.string ⟨xc.toArray⟩]) rfl (Nat.le_refl _) (by decide) rfl
                  have HRD : Hid (Reads (W1.drew.alloc (.cells #[.string ⟨xc.toArray⟩] 9)) (Value.slice (some ⟨g', a, none⟩) (U.length - a) (c3' - a)) ((U.drop a).map encStr)) := reads_drop (ownsRow_below HO2.out (((Below.refl W1.heap.size W1).drew).alloc (Nat.le_refl _) _)) a hul5
                  have HB6 : Hid (∀ w6, (W1.drew.alloc (.cells #[.string ⟨xc.toArray⟩] 9)).grownBy w6 (some W1.heap.size) → Below w.heap.size w w6) := fun w6 hg => (HB2.out.drew.alloc hwW _).grown hg (by simp; omega) (fun j hj => by cases hj; exact hwW)
                  have HC6 : Hid (∀ w6, (W1.drew.alloc (.cells #[.string ⟨xc.toArray⟩] 9)).grownBy w6 (some W1.heap.size) → w6.cell? ⟨Z, 0, none⟩ = some (.string ⟨xc.toArray⟩)) := fun w6 hg => hg.cell (by rw [World.cell?_alloc_lt _ _ _ (by simpa using hZ1)]; exact hcell2) (fun e => by have e1 : Z = W1.heap.size := Option.some.inj e; omega)
                  have HO6 : Hid (∀ w6, (W1.drew.alloc (.cells #[.string ⟨xc.toArray⟩] 9)).grownBy w6 (some W1.heap.size) → w6.ownsRow w.heap.size 9 1 (Value.slice (some ⟨g', 0, none⟩) U.length c3') U.length (U.map encStr)) := fun w6 hg => (ownsRow_below HO2.out (((Below.refl W1.heap.size W1).drew).alloc (Nat.le_refl _) _)).kept hg (Or.inr (fun e => by simp [Value.ownBlock] at e; omega))
                  have hdl : ((U.drop a).map encStr).length = U.length - a := by simp
                  have HDL := Lib.hid hdl
                  clear hdl
                  go_region_held3 (fun w' => w'.cell? ⟨Z, 0, none⟩ = some (.string ⟨xc.toArray⟩)) (go_keep) (first | (refine step_append_reads (by rfl) _ _ _ (by rfl) w.heap.size 9 i0 (.string ⟨#[]⟩) 16 Try.underlying34 hi hz0 hz1 hz2 rfl (.slice (some ⟨W1.heap.size, 0, none⟩) 1 1) 1 [encStr xc] (by simp [Act.eval]) HN1.out (Value.slice (some ⟨g', a, none⟩) (U.length - a) (c3' - a)) ((U.drop a).map encStr) (by simp [Act.eval]) HRD.out (one_strings _) (by have := HDL.out; unfold maxLen; omega) (by have := HDL.out; omega) (Nat.le_trans hwW (by simp)) ?_; intro v6 w6 o6 g6 _; (have hb6 := HB6.out w6 g6); (have hc6 := HC6.out w6 g6)))
                  have HB7 := Lib.hid hb6
                  have hw6 := hb6.size
                  have HO7 := Lib.hid (HO6.out w6 g6)
                  have O6 := Lib.hid o6
                  clear hb6 hc6 o6 g6 HB6 HC6 HO6 HO2 HN1 HRD HB2 hcell2 hZ1
                  have hxl : ([encStr xc] ++ (U.drop a).map encStr).length = 1 + (U.length - a) := by rw [List.length_append, HDL.out]; rfl
                  have HXL := Lib.hid hxl
                  clear hxl
                  have HRT := Lib.hid (reads_take HO7.out a ha hul5)
                  have htl : ((U.take a).map encStr).length = a := by rw [List.length_map, List.length_take, Nat.min_eq_left ha]
                  have HTL := Lib.hid htl
                  clear htl
                  go_wp2_with (at_builtin; refine wpList_append_reads _ rfl _ _ 34 rfl w.heap.size 9 i0 (.string ⟨#[]⟩) 16 Try.underlying34 hi hz0 hz1 hz2 rfl _ _ _ rfl (World.ownsRow_nil _ _ _ _) _ ((U.take a).map encStr) rfl HRT.out (one_strings _) (by rw [HTL.out]; unfold maxLen; omega) (by rw [HTL.out]; omega) hw6 ?_)
                  intro v7 w7 o7 g7 _
                  have g7' : w6.grownBy w7 none := g7
                  have HB8 := Lib.hid (HB7.out.grown g7' hw6 (fun j hj => by cases hj))
                  have hw7 := g7'.size
                  have O67 := O6.out.kept g7' (Or.inr (by obtain ⟨g6, c6, he, _, _⟩ := O6.out.form (by omega); rw [he]; simp [Value.ownBlock]))
                  have HR6 : Hid (Reads w7 v6 (([encStr xc] ++ (U.drop a).map encStr))) := Reads.of_own (by rw [HXL.out]; rw [HDL.out] at O67; exact O67) (by rw [HXL.out]; omega)
                  have O7 := Lib.hid o7
                  clear o7 g7 g7' O67 HRT O6 HO7 HB7
                  go_wp2_with (at_builtin; refine wpList_append_reads _ rfl _ _ 34 rfl w.heap.size 9 i0 (.string ⟨#[]⟩) 16 Try.underlying34 hi hz0 hz1 hz2 rfl _ _ _ rfl O7.out _ ([encStr xc] ++ (U.drop a).map encStr) rfl HR6.out ?r1 ?r2 ?r3 (by omega) ?_)
                  case r1 => intro u hu; rcases List.mem_append.1 hu with h | h; (rw [List.mem_singleton] at h; subst h; rfl); exact one_strings _ u h
                  case r2 => rw [HXL.out]; unfold maxLen; omega
                  case r3 => rw [HXL.out]; omega
                  intro v8 w8 o8 g8 _
                  have HB9 : Hid (Below w.heap.size w w8) := HB8.out.grown g8 (by omega) (fun j hj => (O7.out.lt j hj).1)
                  have HO9 : Hid (w8.ownsRow w.heap.size 9 1 v8 (clientsL V (L.take (k + 1))).length ((clientsL V (L.take (k + 1))).map encStr)) := by
                    rw [HST2.out, HINS.out]
                    have e : (U.take a ++ xc :: U.drop a).length = a + (U.length - a + 1) := by rw [List.length_append, List.length_cons, List.length_take, List.length_drop, Nat.min_eq_left ha]; try omega
                    rw [e]
                    have e2 : (U.take a ++ xc :: U.drop a).map encStr = (U.map encStr).take a ++ encStr xc :: (U.map encStr).drop a := by rw [List.map_append, List.map_cons, List.map_take, List.map_drop]
                    rw [e2]
                    unfold Hid
                    first | (simpa using o8; done) | (rw [List.take_of_length_le (by rw [List.length_map]; exact Nat.le_refl _), List.drop_eq_nil_of_le (by rw [List.length_map]; exact Nat.le_refl _)]; simpa using o8)
                  clear o8 g8 O7 HB8 HR6
                  go_wp2_with fail
                  go_roundg (GK - 1)
                  case measure => have := HP.out; have := HGK.out; omega
                  case rel => exact ⟨k + 1, by omega, by have := HP.out; have := HGK.out; omega, by go_num, HO9.out, HB9.out⟩
            · obtain rfl : a = U.length := by omega
              have hnone : U[U.length]? = none := List.getElem?_eq_none (Nat.le_refl _)
              have hEQ : U.length = atU xc U := by omega
              have HAT := Lib.hid hEQ
              have HINS : Hid (insU xc U = U.take U.length ++ xc :: U.drop U.length) := by
                unfold Hid
                rw [insU_at, ← HAT.out, hnone, if_neg (by simp)]
              have hrow := HOW.out.2
              clear hnone hEQ hbi hat hlen HAT hcells
              rcases hrow with ⟨hnil, h0⟩ | ⟨g', cg, row, he, _⟩
              · injection hnil with e1 e2 e3
                subst e1 e3
                obtain rfl : U = [] := List.eq_nil_of_length_eq_zero h0
                clear h0 e2 HOW HO2
                go_wp2_with fail
                go_quiet (fail)
                have hcz2 : (wr.drewN nq).cell? ⟨Z, 0, none⟩ = some (.string ⟨xc.toArray⟩) := hcz
                have hbw2 : Below w.heap.size w (wr.drewN nq) := below_drewN HBW.out _
                have hz2 : Z < (wr.drewN nq).heap.size := hZ
                clear hcz hZ HBW HBI
                obtain ⟨W9, hW9⟩ : ∃ W9, wr.drewN nq = W9 := ⟨_, rfl⟩
                rw [hW9] at hcz2 hbw2 hz2 ⊢
                have hcz := hcz2
                have hZ := hz2
                have HBW := Lib.hid hbw2
                clear hW9 hcz2 hbw2 hz2 nq
                go_wp2_with fail
                go_quiet (fail)
                go_wp2_with fail
                have hcell2 : (W9.drewN nq).cell? ⟨Z, 0, none⟩ = some (.string ⟨xc.toArray⟩) := hcz
                have HB2 : Hid (Below w.heap.size w (W9.drewN nq)) := below_drewN HBW.out _
                have hZ1 : Z < (W9.drewN nq).heap.size := hZ
                clear hcz hZ
                generalize W9.drewN nq = W1 at *
                have hwW := HB2.out.size
                have HN1 : Hid ((W1.drew.alloc (.cells #[.string ⟨xc.toArray⟩] 9)).ownsRow w.heap.size 9 1 (.slice (some ⟨W1.heap.size, 0, none⟩) 1 1) 1 [encStr xc]) := owns_of_block hwW (Blk.new W1.drew 9 #[.string ⟨xc.toArray⟩]) rfl (Nat.le_refl _) (by decide) rfl
                have HRD : Hid (Reads (W1.drew.alloc (.cells #[.string ⟨xc.toArray⟩] 9)) (Value.slice none 0 0) ((([] : List (List UInt8)).drop 0).map encStr)) := Reads.nil _ _ _
                have HB6 : Hid (∀ w6, (W1.drew.alloc (.cells #[.string ⟨xc.toArray⟩] 9)).grownBy w6 (some W1.heap.size) → Below w.heap.size w w6) := fun w6 hg => (HB2.out.drew.alloc hwW _).grown hg (by simp; omega) (fun j hj => by cases hj; exact hwW)
                have HC6 : Hid (∀ w6, (W1.drew.alloc (.cells #[.string ⟨xc.toArray⟩] 9)).grownBy w6 (some W1.heap.size) → w6.cell? ⟨Z, 0, none⟩ = some (.string ⟨xc.toArray⟩)) := fun w6 hg => hg.cell (by rw [World.cell?_alloc_lt _ _ _ (by simpa using hZ1)]; exact hcell2) (fun e => by have e1 : Z = W1.heap.size := Option.some.inj e; omega)
                have hdl : ((([] : List (List UInt8)).drop 0).map encStr).length = 0 := by simp
                have HDL := Lib.hid hdl
                clear hdl
                go_region_held3 (fun w' => w'.cell? ⟨Z, 0, none⟩ = some (.string ⟨xc.toArray⟩)) (go_keep) (first | (refine step_append_reads (by rfl) _ _ _ (by rfl) w.heap.size 9 i0 (.string ⟨#[]⟩) 16 Try.underlying34 hi hz0 hz1 hz2 rfl (.slice (some ⟨W1.heap.size, 0, none⟩) 1 1) 1 [encStr xc] (by simp [Act.eval]) HN1.out (Value.slice none 0 0) ((([] : List (List UInt8)).drop 0).map encStr) (by simp [Act.eval]) HRD.out (one_strings _) (by have := HDL.out; unfold maxLen; omega) (by have := HDL.out; omega) (Nat.le_trans hwW (by simp)) ?_; intro v6 w6 o6 g6 _; (have hb6 := HB6.out w6 g6); (have hc6 := HC6.out w6 g6)))
                have HB7 := Lib.hid hb6
                have hw6 := hb6.size
                have O6 := Lib.hid o6
                clear hb6 hc6 o6 g6 HB6 HC6 HN1 HRD HB2 hcell2 hZ1
                have hxl : ([encStr xc] ++ (([] : List (List UInt8)).drop 0).map encStr).length = 1 + (0) := by rw [List.length_append, HDL.out]; rfl
                have HXL := Lib.hid hxl
                clear hxl
                have HR6 : Hid (Reads w6 v6 (([encStr xc] ++ (([] : List (List UInt8)).drop 0).map encStr))) := Reads.of_own (by rw [HXL.out]; have := O6.out; rw [HDL.out] at this; exact this) (by rw [HXL.out]; omega)
                clear O6
                go_wp2_with (at_builtin; refine wpList_append_reads _ rfl _ _ 34 rfl w.heap.size 9 i0 (.string ⟨#[]⟩) 16 Try.underlying34 hi hz0 hz1 hz2 rfl _ _ _ rfl (World.ownsRow_nil _ _ _ _) _ ([encStr xc] ++ (([] : List (List UInt8)).drop 0).map encStr) rfl HR6.out ?r1 ?r2 ?r3 hw6 ?_)
                case r1 => intro u hu; rcases List.mem_append.1 hu with h | h; (rw [List.mem_singleton] at h; subst h; rfl); exact one_strings _ u h
                case r2 => rw [HXL.out]; unfold maxLen; omega
                case r3 => rw [HXL.out]; omega
                intro v8 w8 o8 g8 _
                have HB9 : Hid (Below w.heap.size w w8) := HB7.out.grown g8 hw6 (fun j hj => by cases hj)
                have HO9 : Hid (w8.ownsRow w.heap.size 9 1 v8 (clientsL V (L.take (k + 1))).length ((clientsL V (L.take (k + 1))).map encStr)) := by
                  rw [HST2.out, HINS.out]
                  unfold Hid
                  first | (simpa using o8; done) | (rw [List.take_of_length_le (by rw [List.length_map]; exact Nat.le_refl _), List.drop_eq_nil_of_le (by rw [List.length_map]; exact Nat.le_refl _)]; simpa using o8)
                clear o8 g8 HB7 HR6
                go_wp2_with fail
                go_roundg (GK - 1)
                case measure => have := HP.out; have := HGK.out; omega
                case rel => exact ⟨k + 1, by omega, by have := HP.out; have := HGK.out; omega, by go_num, HO9.out, HB9.out⟩
              · injection he with e1 e2 e3
                subst e1 e3
                have b1 : (U.length : Int) ≤ (c3' : Int) := by have := row_cap1 HOW.out; omega
                have b5 : ((U.length : Int) == (U.length : Int)) = true := by simp
                by_cases b4 : c3' = U.length
                · subst b4
                  go_wp2_with fail
                  go_quiet (fail)
                  have hcz2 : (wr.drewN nq).cell? ⟨Z, 0, none⟩ = some (.string ⟨xc.toArray⟩) := hcz
                  have hbw2 : Below w.heap.size w (wr.drewN nq) := below_drewN HBW.out _
                  have how2 : (wr.drewN nq).ownsRow w.heap.size 9 1 (.slice (some ⟨g', 0, none⟩) U.length U.length) U.length (U.map encStr) := HOW.out
                  have hz2 : Z < (wr.drewN nq).heap.size := hZ
                  clear hcz hZ HBW HOW HBI
                  obtain ⟨W9, hW9⟩ : ∃ W9, wr.drewN nq = W9 := ⟨_, rfl⟩
                  rw [hW9] at hcz2 hbw2 how2 hz2 ⊢
                  have hcz := hcz2
                  have hZ := hz2
                  have HBW := Lib.hid hbw2
                  have HOW := Lib.hid how2
                  clear hW9 hcz2 hbw2 how2 hz2 nq
                  go_wp2_with fail
                  go_quiet (fail)
                  go_wp2_with fail
                  have hcell2 : (W9.drewN nq).cell? ⟨Z, 0, none⟩ = some (.string ⟨xc.toArray⟩) := hcz
                  have HB2 : Hid (Below w.heap.size w (W9.drewN nq)) := below_drewN HBW.out _
                  have HO2 : Hid ((W9.drewN nq).ownsRow w.heap.size 9 1 (Value.slice (some ⟨g', 0, none⟩) U.length U.length) U.length (U.map encStr)) := HOW.out
                  have hZ1 : Z < (W9.drewN nq).heap.size := hZ
                  clear hcz hZ
                  generalize W9.drewN nq = W1 at *
                  have hgW : g' < W1.heap.size := row_lt1 HO2.out
                  have hwW := HB2.out.size
                  have HN1 : Hid ((W1.drew.alloc (.cells #[.string ⟨xc.toArray⟩] 9)).ownsRow w.heap.size 9 1 (.slice (some ⟨W1.heap.size, 0, none⟩) 1 1) 1 [encStr xc]) := owns_of_block hwW (Blk.new W1.drew 9 #[.string ⟨xc.toArray⟩]) rfl (Nat.le_refl _) (by decide) rfl
                  have HRD : Hid (Reads (W1.drew.alloc (.cells #[.string ⟨xc.toArray⟩] 9)) (Value.slice (some ⟨g', 0, none⟩) 0 0) ((U.drop U.length).map encStr)) := by rw [List.drop_length]; exact Reads.nil _ _ _
                  have HB6 : Hid (∀ w6, (W1.drew.alloc (.cells #[.string ⟨xc.toArray⟩] 9)).grownBy w6 (some W1.heap.size) → Below w.heap.size w w6) := fun w6 hg => (HB2.out.drew.alloc hwW _).grown hg (by simp; omega) (fun j hj => by cases hj; exact hwW)
                  have HC6 : Hid (∀ w6, (W1.drew.alloc (.cells #[.string ⟨xc.toArray⟩] 9)).grownBy w6 (some W1.heap.size) → w6.cell? ⟨Z, 0, none⟩ = some (.string ⟨xc.toArray⟩)) := fun w6 hg => hg.cell (by rw [World.cell?_alloc_lt _ _ _ (by simpa using hZ1)]; exact hcell2) (fun e => by have e1 : Z = W1.heap.size := Option.some.inj e; omega)
                  have HO6 : Hid (∀ w6, (W1.drew.alloc (.cells #[.string ⟨xc.toArray⟩] 9)).grownBy w6 (some W1.heap.size) → w6.ownsRow w.heap.size 9 1 (Value.slice (some ⟨g', 0, none⟩) U.length U.length) U.length (U.map encStr)) := fun w6 hg => (ownsRow_below HO2.out (((Below.refl W1.heap.size W1).drew).alloc (Nat.le_refl _) _)).kept hg (Or.inr (fun e => by simp [Value.ownBlock] at e; omega))
                  have hdl : ((U.drop U.length).map encStr).length = 0 := by simp
                  have HDL := Lib.hid hdl
                  clear hdl
                  go_region_held3 (fun w' => w'.cell? ⟨Z, 0, none⟩ = some (.string ⟨xc.toArray⟩)) (go_keep) (first | (refine step_append_reads (by rfl) _ _ _ (by rfl) w.heap.size 9 i0 (.string ⟨#[]⟩) 16 Try.underlying34 hi hz0 hz1 hz2 rfl (.slice (some ⟨W1.heap.size, 0, none⟩) 1 1) 1 [encStr xc] (by simp [Act.eval]) HN1.out (Value.slice (some ⟨g', 0, none⟩) 0 0) ((U.drop U.length).map encStr) (by simp [Act.eval]) HRD.out (one_strings _) (by have := HDL.out; unfold maxLen; omega) (by have := HDL.out; omega) (Nat.le_trans hwW (by simp)) ?_; intro v6 w6 o6 g6 _; (have hb6 := HB6.out w6 g6); (have hc6 := HC6.out w6 g6)))
                  have HB7 := Lib.hid hb6
                  have hw6 := hb6.size
                  have HO7 := Lib.hid (HO6.out w6 g6)
                  have O6 := Lib.hid o6
                  clear hb6 hc6 o6 g6 HB6 HC6 HO6 HO2 HN1 HRD HB2 hcell2 hZ1
                  have hxl : ([encStr xc] ++ (U.drop U.length).map encStr).length = 1 + (0) := by rw [List.length_append, HDL.out]; rfl
                  have HXL := Lib.hid hxl
                  clear hxl
                  have HRT := Lib.hid (reads_take HO7.out U.length ha hul5)
                  have htl : ((U.take U.length).map encStr).length = U.length := by rw [List.length_map, List.length_take, Nat.min_eq_left ha]
                  have HTL := Lib.hid htl
                  clear htl
                  go_wp2_with (at_builtin; refine wpList_append_reads _ rfl _ _ 34 rfl w.heap.size 9 i0 (.string ⟨#[]⟩) 16 Try.underlying34 hi hz0 hz1 hz2 rfl _ _ _ rfl (World.ownsRow_nil _ _ _ _) _ ((U.take U.length).map encStr) rfl HRT.out (one_strings _) (by rw [HTL.out]; unfold maxLen; omega) (by rw [HTL.out]; omega) hw6 ?_)
                  intro v7 w7 o7 g7 _
                  have g7' : w6.grownBy w7 none := g7
                  have HB8 := Lib.hid (HB7.out.grown g7' hw6 (fun j hj => by cases hj))
                  have hw7 := g7'.size
                  have O67 := O6.out.kept g7' (Or.inr (by obtain ⟨g6, c6, he, _, _⟩ := O6.out.form (by omega); rw [he]; simp [Value.ownBlock]))
                  have HR6 : Hid (Reads w7 v6 (([encStr xc] ++ (U.drop U.length).map encStr))) := Reads.of_own (by rw [HXL.out]; rw [HDL.out] at O67; exact O67) (by rw [HXL.out]; omega)
                  have O7 := Lib.hid o7
                  clear o7 g7 g7' O67 HRT O6 HO7 HB7
                  go_wp2_with (at_builtin; refine wpList_append_reads _ rfl _ _ 34 rfl w.heap.size 9 i0 (.string ⟨#[]⟩) 16 Try.underlying34 hi hz0 hz1 hz2 rfl _ _ _ rfl O7.out _ ([encStr xc] ++ (U.drop U.length).map encStr) rfl HR6.out ?r1 ?r2 ?r3 (by omega) ?_)
                  case r1 => intro u hu; rcases List.mem_append.1 hu with h | h; (rw [List.mem_singleton] at h; subst h; rfl); exact one_strings _ u h
                  case r2 => rw [HXL.out]; unfold maxLen; omega
                  case r3 => rw [HXL.out]; omega
                  intro v8 w8 o8 g8 _
                  have HB9 : Hid (Below w.heap.size w w8) := HB8.out.grown g8 (by omega) (fun j hj => (O7.out.lt j hj).1)
                  have HO9 : Hid (w8.ownsRow w.heap.size 9 1 v8 (clientsL V (L.take (k + 1))).length ((clientsL V (L.take (k + 1))).map encStr)) := by
                    rw [HST2.out, HINS.out]
                    have e : (U.take U.length ++ xc :: U.drop U.length).length = U.length + 1 := by rw [List.length_append, List.length_cons, List.length_take, List.length_drop, Nat.min_eq_left ha]; try omega
                    rw [e]
                    have e2 : (U.take U.length ++ xc :: U.drop U.length).map encStr = (U.map encStr).take U.length ++ encStr xc :: (U.map encStr).drop U.length := by rw [List.map_append, List.map_cons, List.map_take, List.map_drop]
                    rw [e2]
                    unfold Hid
                    first | (simpa using o8; done) | (rw [List.take_of_length_le (by rw [List.length_map]; exact Nat.le_refl _), List.drop_eq_nil_of_le (by rw [List.length_map]; exact Nat.le_refl _)]; simpa using o8)
                  clear o8 g8 O7 HB8 HR6
                  go_wp2_with fail
                  go_roundg (GK - 1)
                  case measure => have := HP.out; have := HGK.out; omega
                  case rel => exact ⟨k + 1, by omega, by have := HP.out; have := HGK.out; omega, by go_num, HO9.out, HB9.out⟩
                · go_wp2_with fail
                  go_quiet (fail)
                  have hcz2 : (wr.drewN nq).cell? ⟨Z, 0, none⟩ = some (.string ⟨xc.toArray⟩) := hcz
                  have hbw2 : Below w.heap.size w (wr.drewN nq) := below_drewN HBW.out _
                  have how2 : (wr.drewN nq).ownsRow w.heap.size 9 1 (.slice (some ⟨g', 0, none⟩) U.length c3') U.length (U.map encStr) := HOW.out
                  have hz2 : Z < (wr.drewN nq).heap.size := hZ
                  clear hcz hZ HBW HOW HBI
                  obtain ⟨W9, hW9⟩ : ∃ W9, wr.drewN nq = W9 := ⟨_, rfl⟩
                  rw [hW9] at hcz2 hbw2 how2 hz2 ⊢
                  have hcz := hcz2
                  have hZ := hz2
                  have HBW := Lib.hid hbw2
                  have HOW := Lib.hid how2
                  clear hW9 hcz2 hbw2 how2 hz2 nq
                  go_wp2_with fail
                  go_quiet (fail)
                  go_wp2_with fail
                  have hcell2 : (W9.drewN nq).cell? ⟨Z, 0, none⟩ = some (.string ⟨xc.toArray⟩) := hcz
                  have HB2 : Hid (Below w.heap.size w (W9.drewN nq)) := below_drewN HBW.out _
                  have HO2 : Hid ((W9.drewN nq).ownsRow w.heap.size 9 1 (Value.slice (some ⟨g', 0, none⟩) U.length c3') U.length (U.map encStr)) := HOW.out
                  have hZ1 : Z < (W9.drewN nq).heap.size := hZ
                  clear hcz hZ
                  generalize W9.drewN nq = W1 at *
                  have hgW : g' < W1.heap.size := row_lt1 HO2.out
                  have hwW := HB2.out.size
                  have HN1 : Hid ((W1.drew.alloc (.cells #[.string ⟨xc.toArray⟩] 9)).ownsRow w.heap.size 9 1 (.slice (some ⟨W1.heap.size, 0, none⟩) 1 1) 1 [encStr xc]) := owns_of_block hwW (Blk.new W1.drew 9 #[.string ⟨xc.toArray⟩]) rfl (Nat.le_refl _) (by decide) rfl
                  have HRD : Hid (Reads (W1.drew.alloc (.cells #[.string ⟨xc.toArray⟩] 9)) (Value.slice (some ⟨g', U.length, none⟩) 0 (c3' - U.length)) ((U.drop U.length).map encStr)) := by rw [List.drop_length]; exact Reads.nil _ _ _
                  have HB6 : Hid (∀ w6, (W1.drew.alloc (.cells #[.string ⟨xc.toArray⟩] 9)).grownBy w6 (some W1.heap.size) → Below w.heap.size w w6) := fun w6 hg => (HB2.out.drew.alloc hwW _).grown hg (by simp; omega) (fun j hj => by cases hj; exact hwW)
                  have HC6 : Hid (∀ w6, (W1.drew.alloc (.cells #[.string ⟨xc.toArray⟩] 9)).grownBy w6 (some W1.heap.size) → w6.cell? ⟨Z, 0, none⟩ = some (.string ⟨xc.toArray⟩)) := fun w6 hg => hg.cell (by rw [World.cell?_alloc_lt _ _ _ (by simpa using hZ1)]; exact hcell2) (fun e => by have e1 : Z = W1.heap.size := Option.some.inj e; omega)
                  have HO6 : Hid (∀ w6, (W1.drew.alloc (.cells #[.string ⟨xc.toArray⟩] 9)).grownBy w6 (some W1.heap.size) → w6.ownsRow w.heap.size 9 1 (Value.slice (some ⟨g', 0, none⟩) U.length c3') U.length (U.map encStr)) := fun w6 hg => (ownsRow_below HO2.out (((Below.refl W1.heap.size W1).drew).alloc (Nat.le_refl _) _)).kept hg (Or.inr (fun e => by simp [Value.ownBlock] at e; omega))
                  have hdl : ((U.drop U.length).map encStr).length = 0 := by simp
                  have HDL := Lib.hid hdl
                  clear hdl
                  go_region_held3 (fun w' => w'.cell? ⟨Z, 0, none⟩ = some (.string ⟨xc.toArray⟩)) (go_keep) (first | (refine step_append_reads (by rfl) _ _ _ (by rfl) w.heap.size 9 i0 (.string ⟨#[]⟩) 16 Try.underlying34 hi hz0 hz1 hz2 rfl (.slice (some ⟨W1.heap.size, 0, none⟩) 1 1) 1 [encStr xc] (by simp [Act.eval]) HN1.out (Value.slice (some ⟨g', U.length, none⟩) 0 (c3' - U.length)) ((U.drop U.length).map encStr) (by simp [Act.eval]) HRD.out (one_strings _) (by have := HDL.out; unfold maxLen; omega) (by have := HDL.out; omega) (Nat.le_trans hwW (by simp)) ?_; intro v6 w6 o6 g6 _; (have hb6 := HB6.out w6 g6); (have hc6 := HC6.out w6 g6)))
                  have HB7 := Lib.hid hb6
                  have hw6 := hb6.size
                  have HO7 := Lib.hid (HO6.out w6 g6)
                  have O6 := Lib.hid o6
                  clear hb6 hc6 o6 g6 HB6 HC6 HO6 HO2 HN1 HRD HB2 hcell2 hZ1
                  have hxl : ([encStr xc] ++ (U.drop U.length).map encStr).length = 1 + (0) := by rw [List.length_append, HDL.out]; rfl
                  have HXL := Lib.hid hxl
                  clear hxl
                  have HRT := Lib.hid (reads_take HO7.out U.length ha hul5)
                  have htl : ((U.take U.length).map encStr).length = U.length := by rw [List.length_map, List.length_take, Nat.min_eq_left ha]
                  have HTL := Lib.hid htl
                  clear htl
                  go_wp2_with (at_builtin; refine wpList_append_reads _ rfl _ _ 34 rfl w.heap.size 9 i0 (.string ⟨#[]⟩) 16 Try.underlying34 hi hz0 hz1 hz2 rfl _ _ _ rfl (World.ownsRow_nil _ _ _ _) _ ((U.take U.length).map encStr) rfl HRT.out (one_strings _) (by rw [HTL.out]; unfold maxLen; omega) (by rw [HTL.out]; omega) hw6 ?_)
                  intro v7 w7 o7 g7 _
                  have g7' : w6.grownBy w7 none := g7
                  have HB8 := Lib.hid (HB7.out.grown g7' hw6 (fun j hj => by cases hj))
                  have hw7 := g7'.size
                  have O67 := O6.out.kept g7' (Or.inr (by obtain ⟨g6, c6, he, _, _⟩ := O6.out.form (by omega); rw [he]; simp [Value.ownBlock]))
                  have HR6 : Hid (Reads w7 v6 (([encStr xc] ++ (U.drop U.length).map encStr))) := Reads.of_own (by rw [HXL.out]; rw [HDL.out] at O67; exact O67) (by rw [HXL.out]; omega)
                  have O7 := Lib.hid o7
                  clear o7 g7 g7' O67 HRT O6 HO7 HB7
                  go_wp2_with (at_builtin; refine wpList_append_reads _ rfl _ _ 34 rfl w.heap.size 9 i0 (.string ⟨#[]⟩) 16 Try.underlying34 hi hz0 hz1 hz2 rfl _ _ _ rfl O7.out _ ([encStr xc] ++ (U.drop U.length).map encStr) rfl HR6.out ?r1 ?r2 ?r3 (by omega) ?_)
                  case r1 => intro u hu; rcases List.mem_append.1 hu with h | h; (rw [List.mem_singleton] at h; subst h; rfl); exact one_strings _ u h
                  case r2 => rw [HXL.out]; unfold maxLen; omega
                  case r3 => rw [HXL.out]; omega
                  intro v8 w8 o8 g8 _
                  have HB9 : Hid (Below w.heap.size w w8) := HB8.out.grown g8 (by omega) (fun j hj => (O7.out.lt j hj).1)
                  have HO9 : Hid (w8.ownsRow w.heap.size 9 1 v8 (clientsL V (L.take (k + 1))).length ((clientsL V (L.take (k + 1))).map encStr)) := by
                    rw [HST2.out, HINS.out]
                    have e : (U.take U.length ++ xc :: U.drop U.length).length = U.length + 1 := by rw [List.length_append, List.length_cons, List.length_take, List.length_drop, Nat.min_eq_left ha]; try omega
                    rw [e]
                    have e2 : (U.take U.length ++ xc :: U.drop U.length).map encStr = (U.map encStr).take U.length ++ encStr xc :: (U.map encStr).drop U.length := by rw [List.map_append, List.map_cons, List.map_take, List.map_drop]
                    rw [e2]
                    unfold Hid
                    first | (simpa using o8; done) | (rw [List.take_of_length_le (by rw [List.length_map]; exact Nat.le_refl _), List.drop_eq_nil_of_le (by rw [List.length_map]; exact Nat.le_refl _)]; simpa using o8)
                  clear o8 g8 O7 HB8 HR6
                  go_wp2_with fail
                  go_roundg (GK - 1)
                  case measure => have := HP.out; have := HGK.out; omega
                  case rel => exact ⟨k + 1, by omega, by have := HP.out; have := HGK.out; omega, by go_num, HO9.out, HB9.out⟩
      · have HN : Hid (nearB V ⟨xc, xv, xk⟩ = false) := by
          unfold Hid nearB
          rw [Bool.or_eq_false_iff, decide_eq_false_iff_not, decide_eq_false_iff_not]
          exact ⟨fun h => hnear (.inl h), fun h => hnear (.inr h)⟩
        have HST2 : Hid (clientsL V (L.take (k + 1)) = U) := by
          unfold Hid
          rw [HST.out, HN.out]
          rfl
        have e1 : ((xv : Int) != (V : Int)) = true := by simp; omega
        have e2 : ((xv : Int) + 1 != (V : Int)) = true := by simp; omega
        clear hnear HN HST
        go_wp2_with fail
        go_roundg (gk - 1)
        case measure => have := HP.out; omega
        case rel => exact ⟨k + 1, by omega, by have := HP.out; omega, by go_num, by rw [HST2.out]; exact HO2.out, HB2.out⟩
    · obtain rfl : k = L.length := by omega
      rw [List.take_length] at HOWN
      have hlen : (clientsL V L).length ≤ 100 := by
        have := clientsL_len V L []
        unfold clientsL
        simp at this ⊢
        omega
      have HE : Hid (∀ v, wr.ownsRow w.heap.size 9 1 v (clientsL V L).length ((clientsL V L).map encStr) → ClP w (clientsL V L) (.returned v) wr) := fun v h => ⟨v, rfl, Reads.of_own (base := w.heap.size) (e := 9) (by rw [List.length_map]; exact h) (by rw [List.length_map]; omega), HB.out⟩
      clear hp hb hM hown hlen
      go_wp2_with fail
      go_ret
      exact HE.out _ HOWN.out
end Go.Proofs.Ytnofpbhpnhbbpaa
