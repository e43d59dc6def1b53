/- The law AccountHolds: it returns true. -/
import Derived.Test.YtnfehdcinmgnjaaAccG
import Derived.Test.YtnfehdcinmgnjaaAccHP
namespace Go.Proofs.Ytnfehdcinmgnjaa
set_option linter.unusedVariables false
open Go.RowKit Go.Maps Go.Sort

theorem infoInt : (Try.prog.info? 3).map (fun i => (i.zero, i.size, i.bytes)) = some (some (.int .i64 0), 1, 8) := by kernel_rfl

/-- What a walk wants of a list of numbers that came in: each cell, by its index. -/
def IntsOf (w : World) (p : Option Addr) (l : List Int) : Prop :=
  ∀ i x, l[i]? = some x → ∃ blk off, p = some ⟨blk, off, none⟩ ∧ blk < w.heap.size ∧ w.cell? ⟨blk, off + i, none⟩ = some (.int .i64 x)
theorem intsOf_reads {w : World} {p : Option Addr} {l : List Int} {n cap : Nat} (h : Reads w (.slice p n cap) (l.map (Value.int .i64))) : n = l.length ∧ IntsOf w p l := by
  obtain ⟨q, c, e, _, h2⟩ := h
  injection e with e1 e2 e3
  subst e1 e2 e3
  refine ⟨by rw [List.length_map], fun i x hx => ?_⟩
  rcases h2 with h0 | ⟨blk, off, hp, hb, _, hc⟩
  · rw [List.length_map] at h0
    rw [List.eq_nil_of_length_eq_zero h0] at hx
    cases hx
  · exact ⟨blk, off, hp, hb, hc i _ (by rw [List.getElem?_map, hx]; rfl)⟩

theorem addr_add0 (b j : Nat) : (⟨b, 0, none⟩ : Addr).add j = ⟨b, j, none⟩ := by
  unfold Addr.add
  split <;> simp_all
theorem make_big : ∃ big : Array Value, ∀ W : World, Sem.run Try.prog (Instr.makeSlice 26 (.int .i64 65536) (.int .i64 65536)) W = .ok (.slice (some ⟨W.heap.size, 0, none⟩) 65536 65536) (W.alloc (.cells big 5)) :=
  ⟨Go.madeCells #[.int .u8 0] 65536, fun W => run_make_row' (P := Try.prog) 26 5 (.int .u8 0) 1 Try.underlying26 infoByte rfl .i64 .i64 65536 (by omega) (by omega) W⟩
/-- Where the walk of AccountHolds stands: the account, and the row of the costs. -/
structure Sh (w wr : World) (v : Value) (cs : List Int) (A : Ac) : Prop where
  sc : Sc w wr w.heap.size A
  row : wr.ownsRow (w.heap.size + 1) 3 1 v cs.length (cs.map (Value.int .i64))
section
variable {w wr w' : World} {v : Value} {cs : List Int} {A A' : Ac}
theorem Sh.off (s : Sh w wr v cs A) : v.ownBlock = none ∨ v.ownBlock ≠ some w.heap.size := by
  rcases h1 : v.ownBlock with _ | g
  · exact .inl rfl
  · refine .inr fun e => ?_
    have := (s.row.lt g h1).1
    injection e with e
    omega
theorem Sh.kept (s : Sh w wr v cs A) (hg : wr.grownBy w' (some w.heap.size)) : w'.ownsRow (w.heap.size + 1) 3 1 v cs.length (cs.map (Value.int .i64)) := s.row.kept hg s.off
theorem Sh.add (s : Sh w wr v cs A) (c e : Int) (h : acAdd A c = (A', e)) (h1 : -9223372036854775808 ≤ c) (h2 : c ≤ 9223372036854775807)  :
    Calls Try.prog 12 #[.pointer (some ⟨w.heap.size, 0, none⟩), .int .i64 c] wr fun e' w' => e' = .returned (.int .i64 e) ∧ Sh w w' v cs A' := by
  refine (add_any _ A c wr s.sc.acc s.sc.ok h1 h2).mono ?_
  rintro e' w' ⟨rfl, ha, hg⟩
  have hk := acAdd_AcOk c s.sc.ok
  rw [h] at ha hk ⊢
  exact ⟨rfl, s.sc.op ha hg hk, s.kept hg⟩
theorem Sh.rem (s : Sh w wr v cs A) (c e : Int) (h : acRem A c = (A', e)) (h1 : -9223372036854775808 ≤ c) (h2 : c ≤ 9223372036854775807)  :
    Calls Try.prog 17 #[.pointer (some ⟨w.heap.size, 0, none⟩), .int .i64 c] wr fun e' w' => e' = .returned (.int .i64 e) ∧ Sh w w' v cs A' := by
  refine (rem_any _ A c wr s.sc.acc s.sc.ok h1 h2).mono ?_
  rintro e' w' ⟨rfl, ha, hg⟩
  have hk := acRem_AcOk c s.sc.ok
  rw [h] at ha hk ⊢
  exact ⟨rfl, s.sc.op ha hg hk, s.kept hg⟩
theorem Sh.chg (s : Sh w wr v cs A) (c d e : Int) (h : acChg A c d = (A', e)) (h1 : -9223372036854775808 ≤ c) (h2 : c ≤ 9223372036854775807) (h3 : -9223372036854775808 ≤ d) (h4 : d ≤ 9223372036854775807)  :
    Calls Try.prog 15 #[.pointer (some ⟨w.heap.size, 0, none⟩), .int .i64 c, .int .i64 d] wr fun e' w' => e' = .returned (.int .i64 e) ∧ Sh w w' v cs A' := by
  refine (chg_any _ A c d wr s.sc.acc s.sc.ok h1 h2 h3 h4).mono ?_
  rintro e' w' ⟨rfl, ha, hg⟩
  have hk := acChg_AcOk c d s.sc.ok
  rw [h] at ha hk ⊢
  exact ⟨rfl, s.sc.op ha hg hk, s.kept hg⟩
theorem Sh.usedT (s : Sh w wr v cs A)  :
    Calls Try.prog 16 #[.pointer (some ⟨w.heap.size, 0, none⟩)] wr fun e' w' => e' = .returned (.tuple #[.int .i64 A.ub, .int .i64 A.ue]) ∧ Sh w w' v cs A := by
  skip
  exact (used_at _ A wr s.sc.acc s.sc.ok).mono fun _ _ h => ⟨h.1, s.sc.quiet h.2, ownsRow_below s.row h.2⟩
theorem Sh.used (s : Sh w wr v cs A) (x y : Int) (r : Bool) (h : (A.ub == x && A.ue == y) = r) :
    Calls Try.prog 13 #[.pointer (some ⟨w.heap.size, 0, none⟩), .int .i64 x, .int .i64 y] wr fun e' w' => e' = .returned (.bool r) ∧ Sh w w' v cs A := by
  subst h
  exact (lawUsed_at _ A wr s.sc.acc s.sc.ok x y).mono fun _ _ h => ⟨h.1, s.sc.quiet h.2, ownsRow_below s.row h.2⟩
theorem Sh.over (s : Sh w wr v cs A) (x y : Int) (r : Bool) (h : (max 0 (A.ub - A.bb) == x && max 0 (A.ue - A.be) == y) = r) :
    Calls Try.prog 14 #[.pointer (some ⟨w.heap.size, 0, none⟩), .int .i64 x, .int .i64 y] wr fun e' w' => e' = .returned (.bool r) ∧ Sh w w' v cs A := by
  subst h
  exact (lawOver_at _ A wr s.sc.acc s.sc.ok x y).mono fun _ _ h => ⟨h.1, s.sc.quiet h.2, ownsRow_below s.row h.2⟩
theorem Sh.fits (s : Sh w wr v cs A) (c : Int) (r : Bool) (h : (isCost c && decide (c ≤ A.bb)) = r) :
    Calls Try.prog 18 #[.pointer (some ⟨w.heap.size, 0, none⟩), .int .i64 c] wr fun e' w' => e' = .returned (.bool r) ∧ Sh w w' v cs A := by
  subst h
  exact (fits_at _ A wr s.sc.acc s.sc.ok c).mono fun _ _ h => ⟨h.1, s.sc.quiet h.2, ownsRow_below s.row h.2⟩
theorem Sh.append {v' : Value} {x : Int} {o : Obj} (s : Sh w wr v cs A) (h : w'.ownsRow (w.heap.size + 1) 3 1 v' (cs.length + 1) (cs.map (Value.int .i64) ++ [.int .i64 x])) (hg : (wr.alloc o).grownBy w' v.ownBlock) : Sh w w' v' (cs ++ [x]) A := by
  have hlt := Blk.lt s.sc.acc
  have hne : some w.heap.size ≠ v.ownBlock := by
    rcases s.off with h | h
    · rw [h]; simp
    · exact fun e => h e.symm
  refine ⟨⟨?_, Blk.grown (Blk.alloc s.sc.acc o) hg hne, s.sc.ok, s.sc.ge⟩, ?_⟩
  · refine (s.sc.bel.alloc s.sc.bel.size o).grown hg (by have := s.sc.bel.size; simp; omega) (fun j hj => ?_)
    have := (s.row.lt j hj).1
    omega
  · rw [List.length_append, List.map_append]
    exact h
end

set_option maxHeartbeats 4000000 in
set_option maxRecDepth 100000 in
theorem holds_walk (B E gone : Int) (v v2 : Value) (l : List Int) (k : ByteArray) (tags : List Bt)
    (hB : -9223372036854775808 ≤ B ∧ B ≤ 9223372036854775807) (hE : -9223372036854775808 ≤ E ∧ E ≤ 9223372036854775807) (hg : -9223372036854775808 ≤ gone ∧ gone ≤ 9223372036854775807)
    (hx : ∀ x ∈ l, -9223372036854775808 ≤ x ∧ x ≤ 9223372036854775807) (hk : k.size ≤ 140737488355328) (w : World) (hr : Reads w v (l.map (Value.int .i64))) (hr2 : Reads w v2 (tags.map encStr)) :
    Calls Try.prog 5 #[.int .i64 B, .int .i64 E, v, .int .i64 gone, .string k, v2] w fun e w' => e = .returned (.bool true) ∧ Below w.heap.size w w' := by
  have hR := Lib.hid hr
  obtain ⟨p, cap, rfl, hl, _⟩ := hr
  obtain ⟨_, hC⟩ := intsOf_reads hR.out
  rw [List.length_map] at hl ⊢
  have hR2 := Lib.hid hr2
  obtain ⟨p2, cap2, rfl, hl2, _⟩ := hr2
  rw [List.length_map] at hl2 ⊢
  have HC := Lib.hid hC
  have HX := Lib.hid hx
  have hrt : ∀ w', Below w.heap.size w w' → Reads w' (.slice p2 tags.length cap2) (tags.map encStr) := fun w' hb => by
    have := hR2.out.below hb
    rwa [List.length_map] at this
  have HRT := Lib.hid hrt
  clear hC hx hR hR2 hrt
  obtain ⟨hB1, hB2⟩ := hB
  obtain ⟨hE1, hE2⟩ := hE
  obtain ⟨hg1, hg2⟩ := hg
  by_cases h1 : 1 ≤ B ∧ B ≤ 1099511627776 ∧ 1 ≤ E ∧ E ≤ 1048576 ∧ l.length ≤ 60 ∧ k.size ≤ 600 ∧ tags.length ≤ 40
  · obtain ⟨h1, h2, h3, h4, h5, h6, h7⟩ := h1
    go_enter Try.func5, Try.ntmps5
    go_wp2_with fail
    refine (sc_new B E h1 h2 h3 h4 _ _ (Below.refl _ _)).mono ?_
    rintro e w1 ⟨rfl, s0⟩
    have s0 : Sh w w1 (.slice none 0 0) (csOf l 0) ⟨B, E, csum (csOf l 0), ((csOf l 0).length : Int)⟩ := ⟨s0, World.ownsRow_nil _ _ _ _⟩
    go_wp2_with fail
    go_loopw [15, 16, 71] (fun v s i wr => ∃ k : Nat, k ≤ l.length ∧ i = .int .i64 k ∧ s = .int .i64 (csum (csOf l k)) ∧ Sh w wr v (csOf l k) ⟨B, E, csum (csOf l k), ((csOf l k).length : Int)⟩) (fun _ _ i _ => l.length - (intOf i).toNat)
    case atStart => exact ⟨0, by omega, rfl, rfl, s0⟩
    case round =>
      obtain ⟨j, hj, rfl, rfl, s1⟩ := hrel
      obtain ⟨vz, hvz⟩ : ∃ vz, vz = u15 := ⟨_, rfl⟩
      rw [← hvz] at s1 ⊢
      clear s0 hvz
      have hcl := csOf_len l j
      have hcb := csum_bounds _ (csOf_all l j)
      obtain ⟨hcb1, hcb2⟩ := hcb
      by_cases hlt : j < l.length
      · obtain ⟨c, hc⟩ : ∃ c, l[j]? = some c := ⟨l[j], List.getElem?_eq_getElem hlt⟩
        obtain ⟨blk, off, rfl, HBLK, hcell0⟩ := HC.out j c hc
        have hcell : wr.cell? ⟨blk, off + j, none⟩ = some (.int .i64 c) := by
          rw [s1.sc.bel.cell (p := ⟨blk, off + j, none⟩) HBLK]; exact hcell0
        obtain ⟨hx1, hx2⟩ := HX.out c (List.mem_of_getElem? hc)
        cases hcc : isCost c with
        | false =>
          have h8 := (isCost_not c).1 hcc
          have HE := Lib.hid (acAdd_bad (A := ⟨B, E, csum (csOf l j), ((csOf l j).length : Int)⟩) hcc)
          have HN := Lib.hid (csOf_no l j c hc hcc)
          clear hc hcc hcell0
          rcases h8 with h8 | h8
          all_goals
            go_wp2_with fail
            refine (s1.add c 3 HE.out hx1 hx2).mono ?_
            rintro e w2 ⟨rfl, s2⟩
            clear s1
            go_wp2_with fail
            go_roundw
            case rel => exact ⟨j + 1, by omega, by go_num, by rw [HN.out], by rw [HN.out]; exact s2⟩
            case measure => simp [intOf]; omega
        | true =>
          have h8 := (isCost_iff c).1 hcc
          obtain ⟨h8, h9⟩ := h8
          have HY := Lib.hid (csOf_yes l j c hc hcc)
          have HCC := Lib.hid hcc
          clear hc hcc hcell0
          generalize csOf l j = cs at *
          have hok := s1.sc.ok
          have HA := Lib.hid (acAdd_ok (A := ⟨B, E, csum cs, (cs.length : Int)⟩) HCC.out (by show (cs.length : Int) < 2097152; omega))
          have HR := Lib.hid (add_rem hok c HCC.out)
          have HS := Lib.hid (chg_same hok c HCC.out (by show (cs.length : Int) < 2097152; omega))
          have HF : Hid ((isCost c && decide (c ≤ B)) = decide (c ≤ B)) := by show _ = _; rw [HCC.out]; rfl
          clear hok
          go_wp2_with fail
          refine s1.usedT.mono ?_
          rintro e w2 ⟨rfl, s2⟩
          clear s1
          go_wp2_with fail
          refine (s2.add c 0 HA.out hx1 hx2).mono ?_
          rintro e w3 ⟨rfl, s3⟩
          clear s2
          go_wp2_with fail
          refine (s3.rem c 0 HR.out hx1 hx2).mono ?_
          rintro e w4 ⟨rfl, s4⟩
          clear s3
          go_wp2_with fail
          refine (s4.used _ _ true (by simp)).mono ?_
          rintro e w5 ⟨rfl, s5⟩
          clear s4
          go_wp2_with fail
          refine (s5.add c 0 HA.out hx1 hx2).mono ?_
          rintro e w6 ⟨rfl, s6⟩
          clear s5
          go_wp2_with fail
          refine (s6.chg c c 0 HS.out hx1 hx2 hx1 hx2).mono ?_
          rintro e w7 ⟨rfl, s7⟩
          clear s6
          obtain ⟨i0, hi, hz0, hz1, hz2⟩ := info_parts infoInt
          have hrow := s7.row
          have hb7 := s7.sc.bel.size
          have hlt7 := Blk.lt s7.sc.acc
          go_wp2_with (at_builtin; refine wpList_append_own _ rfl _ _ 37 rfl (w.heap.size + 1) 3 i0 (.int .i64 0) 1 8 Try.underlying37 hi hz0 hz1 hz2 rfl (by decide) _ _ _ rfl (hrow.alloc _) ⟨w7.heap.size, 0, none⟩ 1 1 [.int .i64 c] rfl rfl ?c1 ?c2 ?c3 ?c4 ?c5 ?_)
          case c1 => exact cell_one_new _ _ _
          case c2 => exact one_int _ _
          case c3 => unfold maxLen; omega
          case c4 => omega
          case c5 => simp; omega
          intro v' w8 hown' hgr _
          have s8 := s7.append hown' hgr
          obtain ⟨pg, cg, rfl⟩ : ∃ pg cg, v' = .slice pg (cs.length + 1) cg := by
            rcases hown'.2 with ⟨rfl, h0⟩ | ⟨g, cap, cur, rfl, _⟩
            · exact ⟨none, 0, by omega⟩
            · exact ⟨_, _, rfl⟩
          clear s7 hrow hown' hgr hb7 hlt7
          go_wp2_with fail
          refine (s8.used _ _ true (by simp)).mono ?_
          rintro e w9 ⟨rfl, s9⟩
          clear s8
          go_wp2_with fail
          refine (s9.over _ _ true (by simp)).mono ?_
          rintro e w10 ⟨rfl, s10⟩
          clear s9
          go_wp2_with fail
          refine (s10.fits c _ HF.out).mono ?_
          rintro e w11 ⟨rfl, s11⟩
          clear s10
          go_wp2_with fail
          go_roundw
          case rel =>
            refine ⟨j + 1, by omega, by go_num, by rw [HY.out, csum_append]; simp [csum], ?_⟩
            rw [HY.out, csum_append, List.length_append]
            have e1 : csum cs + csum [c] = csum cs + c := by simp [csum]
            rw [e1]
            exact s11
          case measure => simp [intOf]; omega
      · obtain rfl : j = l.length := by omega
        clear hlt hj
        have hall := csOf_all l l.length
        have HALL := Lib.hid hall
        generalize csOf l l.length = cs at *
        clear hall
        obtain ⟨pg, cg, rfl⟩ : ∃ pg cg, vz = .slice pg cs.length cg := by
          rcases s1.row.2 with ⟨rfl, h0⟩ | ⟨g, cap, cur, rfl, _⟩
          · exact ⟨none, 0, by rw [h0]⟩
          · exact ⟨_, _, rfl⟩
        go_wp2_with fail
        go_loopw [16, 21] (fun s i wr => ∃ j : Nat, j ≤ cs.length ∧ i = .int .i64 j ∧ s = .int .i64 (csum (cs.drop j)) ∧ Sh w wr (.slice pg cs.length cg) cs ⟨B, E, csum (cs.drop j), ((cs.drop j).length : Int)⟩) (fun _ i _ => cs.length - (intOf i).toNat)
        case atStart => exact ⟨0, by omega, rfl, by simp, by simpa using s1⟩
        case round =>
          obtain ⟨j, hj, rfl, rfl, s2⟩ := hrel
          clear s1
          have hdb := csum_bounds (cs.drop j) fun x hx => HALL.out x (List.mem_of_mem_drop hx)
          rw [List.length_drop] at hdb
          obtain ⟨hdb1, hdb2⟩ := hdb
          by_cases hlt : (j : Int) < gone ∧ j < cs.length
          · obtain ⟨hlt1, hlt2⟩ := hlt
            obtain ⟨c, hc⟩ : ∃ c, cs[j]? = some c := ⟨cs[j], List.getElem?_eq_getElem hlt2⟩
            have hcc := HALL.out c (List.mem_of_getElem? hc)
            have h8 := (isCost_iff c).1 hcc
            obtain ⟨h8, h9⟩ := h8
            have hd : cs.drop j = c :: cs.drop (j + 1) := by
              rw [List.drop_eq_getElem_cons hlt2]
              congr 1
              exact Option.some.inj ((List.getElem?_eq_getElem hlt2).symm.trans hc)
            have hrf := rem_front (B := B) (E := E) (x := c) (r := cs.drop (j + 1)) (fun y hy => HALL.out y (List.mem_of_mem_drop (by rw [hd]; exact hy)))
            rw [← hd] at hrf
            have hsum : csum (cs.drop j) = c + csum (cs.drop (j + 1)) := by rw [hd]; rfl
            obtain ⟨g, capg, hform, hbg, hgs⟩ := s2.row.form (by omega)
            injection hform with e1 e2 e3
            subst e1 e3
            have hcell : wr.cell? ⟨g, j, none⟩ = some (.int .i64 c) := by
              rw [s2.row.cellAt j (by omega), List.getElem?_map, hc]
              rfl
            have HRF := Lib.hid hrf
            have hlen : ((cs.drop (j + 1)).length : Int) = (cs.length : Int) - (j : Int) - 1 := by rw [List.length_drop]; omega
            have HLEN := Lib.hid hlen
            have hs2 : csum (cs.drop j) - c = csum (cs.drop (j + 1)) := by omega
            have HS2 := Lib.hid hs2
            clear hc hcc hd hrf hsum e2 hlen hs2
            go_wp2_with fail
            refine (s2.rem c 0 HRF.out (by omega) (by omega)).mono ?_
            rintro e w3 ⟨rfl, s3⟩
            have hcell3 : w3.cell? ⟨g, j, none⟩ = some (.int .i64 c) := by
              have := s3.row.cells (g := g) rfl j (.int .i64 c)
              rw [addr_add0] at this
              refine this ?_
              have h1 := s2.row.cellAt j (by omega)
              rw [hcell] at h1
              exact h1.symm
            clear s2 hcell
            go_wp2_with fail
            refine (s3.used _ _ true (by rw [HLEN.out, HS2.out]; simp)).mono ?_
            rintro e w4 ⟨rfl, s4⟩
            clear s3 hcell3
            go_wp2_with fail
            go_roundw
            case rel => exact ⟨j + 1, by omega, by go_num, by rw [HS2.out], s4⟩
            case measure => simp [intOf]; omega
          · have hlt2 : gone ≤ (j : Int) ∨ ((j : Int) < gone ∧ j = cs.length) := by omega
            have hbel := s2.sc.bel
            clear hlt s2
            rcases hlt2 with hlt2 | ⟨hlt2, hlt3⟩
            · have HCT := Lib.hid (cellsOf_reads (HRT.out _ hbel)).2
              go_wp2_with fail
              go_loop [192] (fun i => ∃ q : Nat, q ≤ tags.length ∧ i = .int .i64 q ∧ Hid (∀ x ∈ tags.take q, x.length ≤ 100)) (fun i => tags.length - (intOf i).toNat)
              case atStart => exact ⟨0, by omega, rfl, by intro x hx; simp at hx⟩
              case round =>
                obtain ⟨q, hq, rfl, HQ⟩ := hrel
                by_cases hlt : q < tags.length
                · obtain ⟨x, hx⟩ : ∃ x, tags[q]? = some x := ⟨tags[q], List.getElem?_eq_getElem hlt⟩
                  obtain ⟨tb, to, rfl, HTB, tcell⟩ := HCT.out q x hx
                  by_cases hs : x.length ≤ 100
                  · have HQ2 : Hid (∀ x ∈ tags.take (q + 1), x.length ≤ 100) := by
                      intro y hy
                      rw [take_snoc tags q x hx] at hy
                      rcases List.mem_append.1 hy with hy | hy
                      · exact HQ.out y hy
                      · simp only [List.mem_singleton] at hy; rw [hy]; exact hs
                    clear hx
                    go_wp2
                    go_round
                    case rel => exact ⟨q + 1, by omega, by go_num, HQ2⟩
                    case measure => simp [intOf]; omega
                  · have hs2 : 100 < x.length := by omega
                    clear hs hx
                    go_wp2_with fail
                    refine (known_any _).mono ?_
                    rintro e w9 ⟨rfl, b9⟩
                    go_wp2_with fail
                    go_ret
                    exact ⟨rfl, hbel.trans (b9.mono hbel.size)⟩
                · obtain rfl : q = tags.length := by omega
                  have hx : ∀ x ∈ tags, x.length ≤ 1000 := fun x hx => by
                    have := HQ.out x (by rw [List.take_length]; exact hx)
                    omega
                  have HX2 := Lib.hid hx
                  clear hlt hq hx HQ HCT
                  obtain ⟨big, hmk⟩ := make_big
                  cases hok : (kValid k.size && okTags tags) with
                  | true =>
                    have hkv : kValid k.size = true := by
                      rw [Bool.and_eq_true] at hok; exact hok.1
                    have hot : okTags tags = true := by
                      rw [Bool.and_eq_true] at hok; exact hok.2
                    have hkv2 : 1 ≤ k.size ∧ k.size ≤ 250 := by simpa [kValid] using hkv
                    obtain ⟨hk1, hk2⟩ := hkv2
                    have hob := okTags_bounds hot
                    have hS : lenSum tags ≤ 1024 := by
                      have := lenSum_bound tags 64 hob.2
                      have := hob.1
                      omega
                    obtain ⟨z, hz⟩ : ∃ z : Int, z = (k.size : Int) + (lenSum tags : Int) + 64 := ⟨_, rfl⟩
                    have hz1 : 65 ≤ z := by omega
                    have hz2 : z ≤ 1400 := by omega
                    have e1 : acCost k.size 65536 tags = (z + 65536, 0) := by
                      rw [acCost_ok hok (by omega)]
                      congr 1
                      omega
                    have e2 : acCost k.size 0 tags = (z, 0) := by
                      rw [acCost_ok hok (by omega)]
                      congr 1
                      omega
                    have C1 : Hid (∀ (W : World) (pp : Option Addr), Reads W (.slice p2 tags.length cap2) (tags.map encStr) → Calls Try.prog 19 #[.string k, .slice pp 65536 65536, .slice p2 tags.length cap2] W fun e w' => e = .returned (.tuple #[.int .i64 (z + 65536), .int .i64 0]) ∧ Below W.heap.size W w') := fun W pp hW => by
                      have := accCost_any k 65536 65536 pp _ tags (by omega) (by omega) (by omega) HX2.out W hW
                      rwa [e1] at this
                    have C2 : Hid (∀ (W : World), Reads W (.slice p2 tags.length cap2) (tags.map encStr) → Calls Try.prog 19 #[.string k, .slice none 0 0, .slice p2 tags.length cap2] W fun e w' => e = .returned (.tuple #[.int .i64 z, .int .i64 0]) ∧ Below W.heap.size W w') := fun W hW => by
                      have := accCost_any k 0 0 none _ tags (by omega) (by omega) (by omega) HX2.out W hW
                      rwa [e2] at this
                    clear hok hkv hot hob e1 e2 hz hS
                    go_wp2_with fail
                    clear hmk
                    have hb1 := hbel.alloc hbel.size (.cells big 5)
                    refine (C1.out _ _ (HRT.out _ hb1)).mono ?_
                    rintro e x1 ⟨rfl, b1⟩
                    have hb2 := hb1.trans (b1.mono hb1.size)
                    clear b1 hb1 hbel
                    go_wp2_with fail
                    refine (C2.out _ (HRT.out _ hb2)).mono ?_
                    rintro e x2 ⟨rfl, b1⟩
                    have hb3 := hb2.trans (b1.mono hb2.size)
                    clear b1 hb2
                    go_wp2_with fail
                    refine (known_any _).mono ?_
                    rintro e x3 ⟨rfl, b1⟩
                    go_wp2_with fail
                    go_ret
                    exact ⟨rfl, hb3.trans (b1.mono hb3.size)⟩
                  | false =>
                    have e1 : acCost k.size 65536 tags = (0, 2) := acCost_bad hok
                    have e2 : acCost k.size 0 tags = (0, 2) := acCost_bad hok
                    have C1 : Hid (∀ (W : World) (pp : Option Addr), Reads W (.slice p2 tags.length cap2) (tags.map encStr) → Calls Try.prog 19 #[.string k, .slice pp 65536 65536, .slice p2 tags.length cap2] W fun e w' => e = .returned (.tuple #[.int .i64 0, .int .i64 2]) ∧ Below W.heap.size W w') := fun W pp hW => by
                      have := accCost_any k 65536 65536 pp _ tags (by omega) (by omega) (by omega) HX2.out W hW
                      rwa [e1] at this
                    have C2 : Hid (∀ (W : World), Reads W (.slice p2 tags.length cap2) (tags.map encStr) → Calls Try.prog 19 #[.string k, .slice none 0 0, .slice p2 tags.length cap2] W fun e w' => e = .returned (.tuple #[.int .i64 0, .int .i64 2]) ∧ Below W.heap.size W w') := fun W hW => by
                      have := accCost_any k 0 0 none _ tags (by omega) (by omega) (by omega) HX2.out W hW
                      rwa [e2] at this
                    clear hok e1 e2
                    go_wp2_with fail
                    clear hmk
                    have hb1 := hbel.alloc hbel.size (.cells big 5)
                    refine (C1.out _ _ (HRT.out _ hb1)).mono ?_
                    rintro e x1 ⟨rfl, b1⟩
                    have hb2 := hb1.trans (b1.mono hb1.size)
                    clear b1 hb1 hbel
                    go_wp2_with fail
                    refine (C2.out _ (HRT.out _ hb2)).mono ?_
                    rintro e x2 ⟨rfl, b1⟩
                    have hb3 := hb2.trans (b1.mono hb2.size)
                    clear b1 hb2
                    go_wp2_with fail
                    refine (known_any _).mono ?_
                    rintro e x3 ⟨rfl, b1⟩
                    go_wp2_with fail
                    go_ret
                    exact ⟨rfl, hb3.trans (b1.mono hb3.size)⟩
            · subst hlt3
              have HCT := Lib.hid (cellsOf_reads (HRT.out _ hbel)).2
              go_wp2_with fail
              go_loop [192] (fun i => ∃ q : Nat, q ≤ tags.length ∧ i = .int .i64 q ∧ Hid (∀ x ∈ tags.take q, x.length ≤ 100)) (fun i => tags.length - (intOf i).toNat)
              case atStart => exact ⟨0, by omega, rfl, by intro x hx; simp at hx⟩
              case round =>
                obtain ⟨q, hq, rfl, HQ⟩ := hrel
                by_cases hlt : q < tags.length
                · obtain ⟨x, hx⟩ : ∃ x, tags[q]? = some x := ⟨tags[q], List.getElem?_eq_getElem hlt⟩
                  obtain ⟨tb, to, rfl, HTB, tcell⟩ := HCT.out q x hx
                  by_cases hs : x.length ≤ 100
                  · have HQ2 : Hid (∀ x ∈ tags.take (q + 1), x.length ≤ 100) := by
                      intro y hy
                      rw [take_snoc tags q x hx] at hy
                      rcases List.mem_append.1 hy with hy | hy
                      · exact HQ.out y hy
                      · simp only [List.mem_singleton] at hy; rw [hy]; exact hs
                    clear hx
                    go_wp2
                    go_round
                    case rel => exact ⟨q + 1, by omega, by go_num, HQ2⟩
                    case measure => simp [intOf]; omega
                  · have hs2 : 100 < x.length := by omega
                    clear hs hx
                    go_wp2_with fail
                    refine (known_any _).mono ?_
                    rintro e w9 ⟨rfl, b9⟩
                    go_wp2_with fail
                    go_ret
                    exact ⟨rfl, hbel.trans (b9.mono hbel.size)⟩
                · obtain rfl : q = tags.length := by omega
                  have hx : ∀ x ∈ tags, x.length ≤ 1000 := fun x hx => by
                    have := HQ.out x (by rw [List.take_length]; exact hx)
                    omega
                  have HX2 := Lib.hid hx
                  clear hlt hq hx HQ HCT
                  obtain ⟨big, hmk⟩ := make_big
                  cases hok : (kValid k.size && okTags tags) with
                  | true =>
                    have hkv : kValid k.size = true := by
                      rw [Bool.and_eq_true] at hok; exact hok.1
                    have hot : okTags tags = true := by
                      rw [Bool.and_eq_true] at hok; exact hok.2
                    have hkv2 : 1 ≤ k.size ∧ k.size ≤ 250 := by simpa [kValid] using hkv
                    obtain ⟨hk1, hk2⟩ := hkv2
                    have hob := okTags_bounds hot
                    have hS : lenSum tags ≤ 1024 := by
                      have := lenSum_bound tags 64 hob.2
                      have := hob.1
                      omega
                    obtain ⟨z, hz⟩ : ∃ z : Int, z = (k.size : Int) + (lenSum tags : Int) + 64 := ⟨_, rfl⟩
                    have hz1 : 65 ≤ z := by omega
                    have hz2 : z ≤ 1400 := by omega
                    have e1 : acCost k.size 65536 tags = (z + 65536, 0) := by
                      rw [acCost_ok hok (by omega)]
                      congr 1
                      omega
                    have e2 : acCost k.size 0 tags = (z, 0) := by
                      rw [acCost_ok hok (by omega)]
                      congr 1
                      omega
                    have C1 : Hid (∀ (W : World) (pp : Option Addr), Reads W (.slice p2 tags.length cap2) (tags.map encStr) → Calls Try.prog 19 #[.string k, .slice pp 65536 65536, .slice p2 tags.length cap2] W fun e w' => e = .returned (.tuple #[.int .i64 (z + 65536), .int .i64 0]) ∧ Below W.heap.size W w') := fun W pp hW => by
                      have := accCost_any k 65536 65536 pp _ tags (by omega) (by omega) (by omega) HX2.out W hW
                      rwa [e1] at this
                    have C2 : Hid (∀ (W : World), Reads W (.slice p2 tags.length cap2) (tags.map encStr) → Calls Try.prog 19 #[.string k, .slice none 0 0, .slice p2 tags.length cap2] W fun e w' => e = .returned (.tuple #[.int .i64 z, .int .i64 0]) ∧ Below W.heap.size W w') := fun W hW => by
                      have := accCost_any k 0 0 none _ tags (by omega) (by omega) (by omega) HX2.out W hW
                      rwa [e2] at this
                    clear hok hkv hot hob e1 e2 hz hS
                    go_wp2_with fail
                    clear hmk
                    have hb1 := hbel.alloc hbel.size (.cells big 5)
                    refine (C1.out _ _ (HRT.out _ hb1)).mono ?_
                    rintro e x1 ⟨rfl, b1⟩
                    have hb2 := hb1.trans (b1.mono hb1.size)
                    clear b1 hb1 hbel
                    go_wp2_with fail
                    refine (C2.out _ (HRT.out _ hb2)).mono ?_
                    rintro e x2 ⟨rfl, b1⟩
                    have hb3 := hb2.trans (b1.mono hb2.size)
                    clear b1 hb2
                    go_wp2_with fail
                    refine (known_any _).mono ?_
                    rintro e x3 ⟨rfl, b1⟩
                    go_wp2_with fail
                    go_ret
                    exact ⟨rfl, hb3.trans (b1.mono hb3.size)⟩
                  | false =>
                    have e1 : acCost k.size 65536 tags = (0, 2) := acCost_bad hok
                    have e2 : acCost k.size 0 tags = (0, 2) := acCost_bad hok
                    have C1 : Hid (∀ (W : World) (pp : Option Addr), Reads W (.slice p2 tags.length cap2) (tags.map encStr) → Calls Try.prog 19 #[.string k, .slice pp 65536 65536, .slice p2 tags.length cap2] W fun e w' => e = .returned (.tuple #[.int .i64 0, .int .i64 2]) ∧ Below W.heap.size W w') := fun W pp hW => by
                      have := accCost_any k 65536 65536 pp _ tags (by omega) (by omega) (by omega) HX2.out W hW
                      rwa [e1] at this
                    have C2 : Hid (∀ (W : World), Reads W (.slice p2 tags.length cap2) (tags.map encStr) → Calls Try.prog 19 #[.string k, .slice none 0 0, .slice p2 tags.length cap2] W fun e w' => e = .returned (.tuple #[.int .i64 0, .int .i64 2]) ∧ Below W.heap.size W w') := fun W hW => by
                      have := accCost_any k 0 0 none _ tags (by omega) (by omega) (by omega) HX2.out W hW
                      rwa [e2] at this
                    clear hok e1 e2
                    go_wp2_with fail
                    clear hmk
                    have hb1 := hbel.alloc hbel.size (.cells big 5)
                    refine (C1.out _ _ (HRT.out _ hb1)).mono ?_
                    rintro e x1 ⟨rfl, b1⟩
                    have hb2 := hb1.trans (b1.mono hb1.size)
                    clear b1 hb1 hbel
                    go_wp2_with fail
                    refine (C2.out _ (HRT.out _ hb2)).mono ?_
                    rintro e x2 ⟨rfl, b1⟩
                    have hb3 := hb2.trans (b1.mono hb2.size)
                    clear b1 hb2
                    go_wp2_with fail
                    refine (known_any _).mono ?_
                    rintro e x3 ⟨rfl, b1⟩
                    go_wp2_with fail
                    go_ret
                    exact ⟨rfl, hb3.trans (b1.mono hb3.size)⟩
  · have h2 : B < 1 ∨ (1 ≤ B ∧ 1099511627776 < B) ∨ (1 ≤ B ∧ B ≤ 1099511627776 ∧ E < 1) ∨ (1 ≤ B ∧ B ≤ 1099511627776 ∧ 1 ≤ E ∧ 1048576 < E) ∨ (1 ≤ B ∧ B ≤ 1099511627776 ∧ 1 ≤ E ∧ E ≤ 1048576 ∧ 60 < l.length)
        ∨ (1 ≤ B ∧ B ≤ 1099511627776 ∧ 1 ≤ E ∧ E ≤ 1048576 ∧ l.length ≤ 60 ∧ 600 < k.size) ∨ (1 ≤ B ∧ B ≤ 1099511627776 ∧ 1 ≤ E ∧ E ≤ 1048576 ∧ l.length ≤ 60 ∧ k.size ≤ 600 ∧ 40 < tags.length) := by omega
    rcases h2 with h2 | ⟨h2, h3⟩ | ⟨h2, h3, h4⟩ | ⟨h2, h3, h4, h5⟩ | ⟨h2, h3, h4, h5, h6⟩ | ⟨h2, h3, h4, h5, h6, h7⟩ | ⟨h2, h3, h4, h5, h6, h7, h8⟩
    all_goals
      clear h1
      go_enter Try.func5, Try.ntmps5
      go_wp2_with (go_at_call 8; refine (known_any _).mono ?_; rintro e w' ⟨rfl, hb1⟩)
      go_ret
      exact ⟨rfl, hb1⟩
end Go.Proofs.Ytnfehdcinmgnjaa
