/- An index of entries: Tags, Numbers, Slots, Next. -/
import Derived.Test.YthngkimncdpekaaRevA
import Derived.Test.YthngkimncdpekaaTags
import Derived.Test.YthngkimncdpekaaSlc
namespace Go.Proofs.Ythngkimncdpekaa
set_option linter.unusedVariables false
open Go.RowKit Go.Maps Go.Sort

theorem u64Info : (Try.prog.info? 29).map (fun i => (i.zero, i.size, i.bytes)) = some (some (.int .u64 0), 1, 8) := by kernel_rfl
theorem intInfo : (Try.prog.info? 3).map (fun i => (i.zero, i.size, i.bytes)) = some (some (.int .i64 0), 1, 8) := by kernel_rfl
theorem numsV_one (l : List Nat) : ∀ u ∈ numsV l, u.oneCell' = true := by
  intro u hu
  obtain ⟨n, _, rfl⟩ := List.mem_map.1 hu
  rfl
theorem idsV_one (l : List Nat) : ∀ u ∈ idsV l, u.oneCell' = true := by
  intro u hu
  obtain ⟨n, _, rfl⟩ := List.mem_map.1 hu
  rfl
/-- A new row of the call's own. -/
def NewRow (w : World) (t : TypeId) (xs : List Value) (e : Ending) (w' : World) : Prop := ∃ v, e = .returned v ∧ w'.ownsRow w.heap.size t 1 v xs.length xs ∧ Below w.heap.size w w'
theorem cloneS_any (v : Value) (l : List (List UInt8)) (w : World) (h : Reads w v (l.map encStr)) (hl : l.length ≤ 1000000) :
    Calls Try.prog 75 #[v] w (NewRow w 9 (l.map encStr)) := by
  obtain ⟨p, cap, rfl, hl2, h2⟩ := h
  rw [List.length_map] at h2 ⊢
  clear hl2
  rcases Nat.eq_zero_or_pos l.length with h0 | h0
  · have hl0 : l = [] := List.eq_nil_of_length_eq_zero h0
    subst hl0
    cases p with
    | none => exact (Try.slices_Clone_string_nil 0 cap w).mono fun e w' ⟨h1, h2⟩ => ⟨_, h1, World.ownsRow_nil _ _ _ _, by rw [h2]; exact Below.refl _ _⟩
    | some a => exact (Try.slices_Clone_string_zero a cap w).mono fun e w' ⟨v', h1, h2, _, h3⟩ => ⟨v', h1, h2, h3⟩
  · rcases h2 with h3 | ⟨blk, off, rfl, hblk, hc, hcell⟩
    · omega
    · obtain ⟨i0, hi, hz0, hz1, hz2⟩ := info_parts tags_info
      refine (AnyE.slices_Clone Try.laysSlE041_f75 i0 (.string ⟨#[]⟩) 1 16 hi hz0 hz1 hz2 rfl (by decide) (fun w => by kernel_rfl) blk off l.length cap (l.map encStr) w (by simp) (by unfold maxLen; omega) (by omega) (fun j u hj => ?_) (one_strings l)).mono ?_
      · exact hcell j u hj
      · rintro e w' ⟨v', h1, h2, _, h3⟩
        exact ⟨v', h1, by rw [List.length_map]; exact h2, h3⟩
theorem cloneI_any (v : Value) (l : List Nat) (w : World) (h : Reads w v (numsV l)) (hl : l.length ≤ 1000000) :
    Calls Try.prog 60 #[v] w (NewRow w 3 (numsV l)) := by
  have e : numsV l = i64s (l.map fun n : Nat => (n : Int)) := by unfold i64s; rw [List.map_map]; rfl
  unfold NewRow
  rw [e] at h ⊢
  refine (clone_reads v _ w h (by rw [List.length_map]; exact hl)).mono ?_
  rintro e w' ⟨v', h1, h2, h3⟩
  exact ⟨v', h1, by rw [List.length_map]; exact h2, h3⟩
theorem cloneU_any (v : Value) (l : List Nat) (B : Nat) (w : World) (h : w.ownsRow B 29 1 v l.length (idsV l)) (hl : l.length ≤ 1000000) :
    Calls Try.prog 72 #[v] w (NewRow w 29 (idsV l)) := by
  have hh := h
  unfold NewRow
  rw [List.length_map]
  rcases h.2 with ⟨rfl, h0⟩ | ⟨g, cap, cur, rfl, hbg, hg, hn, hcap, hs, ht⟩
  · refine (AnyE.slices_Clone_nil Try.laysSlE041_f72 0 0 w).mono ?_
    rintro e w' ⟨rfl, rfl⟩
    have hx : l = [] := List.eq_nil_of_length_eq_zero h0
    subst hx
    exact ⟨_, rfl, World.ownsRow_nil _ _ _ _, Below.refl _ _⟩
  · obtain ⟨i0, hi, hz0, hz1, hz2⟩ := info_parts u64Info
    refine (AnyE.slices_Clone Try.laysSlE041_f72 i0 (.int .u64 0) 1 8 hi hz0 hz1 hz2 rfl (by decide) (fun w => by kernel_rfl) g 0 l.length cap (idsV l) w (by simp) (by unfold maxLen; omega) (by omega) (fun j u hj => ?_) (idsV_one l)).mono ?_
    · rw [Nat.zero_add]
      exact (hh.cellAt j (by have := (List.getElem?_eq_some_iff.1 hj).1; rw [h.1] at this; exact this)).trans hj
    · rintro e w' ⟨v', h1, h2, _, h3⟩
      exact ⟨v', h1, h2, h3⟩
/-- A new row and an error. -/
def RowP (w : World) (t : TypeId) (xs : List Value) (er : Int) (e : Ending) (w' : World) : Prop := ∃ v, e = .returned (.tuple #[v, .int .i64 er]) ∧ w'.ownsRow w.heap.size t 1 v xs.length xs ∧ Below w.heap.size w w'
def tagsE (A : List En) (id : Nat) : List (List UInt8) := match getE A id with | some e => e.tags | none => []
def numsE (A : List En) (id : Nat) : List Nat := match getE A id with | some e => e.nums | none => []
def errE (A : List En) (id : Nat) : Int := if liveE A id = true then 0 else 9
theorem ownsRow_new {w : World} {B : Nat} {t : TypeId} {v : Value} {xs : List Value} (h : w.ownsRow B t 1 v xs.length xs) {B' : Nat} (hb : B' ≤ B) : w.ownsRow B' t 1 v xs.length xs := ownsRow_low h hb
section
variable {w : World} {x tb lb sb : Nat} {most seed R : Int} {n : Nat} {own : Nat → Option Nat} {Rd : Nat → Prop} {lm : List (Nat × (Slc × Slc))} {sm : List (Nat × Slc)} {l0 : Nms} {d : Dx}
theorem Ry.ent (h : Ry w x tb lb sb most seed R n own Rd lm sm l0 d) {id : Nat} (hl : liveE d.all id = true) : Ro w Rd (slcV (mget entZ lm id).1) ((tagsE d.all id).map encStr) ∧ Ro w Rd (slcV (mget entZ lm id).2) (numsV (numsE d.all id)) ∧ (tagsE d.all id).length ≤ 16 ∧ (numsE d.all id).length ≤ 16 := by
  unfold liveE at hl
  obtain ⟨e, he⟩ := Option.isSome_iff_exists.1 hl
  obtain ⟨h1, h2, h3⟩ := getE_some he
  have h4 := h.lv.at_ e h1 h3
  have h5 := h.iw.len e h1
  have h6 := (tagsB_is h5.2.2).2.2.1
  unfold tagsE numsE
  rw [he]
  rw [h2] at h4
  exact ⟨h4.1, h4.2, h6, by rw [h5.1]; exact h6⟩
set_option maxHeartbeats 1000000 in
set_option maxRecDepth 100000 in
theorem rvtags_any (h : Ry w x tb lb sb most seed R n own Rd lm sm l0 d) (id : Nat) (hid : id ≤ 18446744073709551615) :
    Calls Try.prog 35 #[.pointer (some ⟨x, 0, none⟩), .int .u64 (id : Int)] w (RowP w 9 ((tagsE d.all id).map encStr) (errE d.all id)) := by
  cases hl : liveE d.all id
  · have HF := Lib.hid (rvfind_no h id hid hl)
    have he : errE d.all id = 9 := by unfold errE; rw [if_neg (by rw [hl]; decide)]
    have ht : tagsE d.all id = [] := by unfold tagsE; unfold liveE at hl; rw [Option.isSome_eq_false_iff, Option.isNone_iff_eq_none] at hl; rw [hl]
    rw [he, ht]
    have HC := Lib.hid (fun W => cloneS_any (.slice none 0 0) [] W (Reads.nil _ _ _) (by decide))
    clear h hl he ht
    go_enter Try.func35, Try.ntmps35
    go_wp2_with (first
      | (go_at_call 63; refine HF.out.mono ?_; rintro e w1 ⟨rfl, b1⟩)
      | (go_at_call 75; refine (HC.out _).mono ?_; rintro e w2 ⟨v, rfl, hv, b2⟩))
    go_ret2
    have hb1 := b1.alloc b1.size (.cells #[.slice none 0 0, .slice none 0 0] 118)
    exact ⟨v, rfl, ownsRow_low hv hb1.size, hb1.trans (b2.mono hb1.size)⟩
  · have HF := Lib.hid (rvfind_yes h id hid hl)
    have he : errE d.all id = 0 := by unfold errE; rw [if_pos hl]
    have hr := (h.ent hl).1.rd
    have hn := (h.ent hl).2.2.1
    rw [he]
    generalize tagsE d.all id = ts at *
    generalize mget entZ lm id = z at *
    obtain ⟨⟨p1, n1, k1⟩, ⟨p2, n2, k2⟩⟩ := z
    have HC := Lib.hid (fun W hW => cloneS_any _ ts W (hr.below hW) (by omega))
    clear h hl he hr
    go_enter Try.func35, Try.ntmps35
    go_wp2_with (go_at_call 63; refine HF.out.mono ?_; rintro e w1 ⟨rfl, b1⟩)
    have hb1 := b1.alloc b1.size (.cells #[.slice p1 n1 k1, .slice p2 n2 k2] 118)
    refine (HC.out _ hb1).mono ?_
    rintro e w2 ⟨v, rfl, hv, b2⟩
    have HV := Lib.hid (And.intro hv b2)
    clear HC HF hv b2
    go_wp2_with fail
    go_ret2
    exact ⟨v, rfl, ownsRow_low HV.out.1 hb1.size, hb1.trans (HV.out.2.mono hb1.size)⟩
set_option maxHeartbeats 1000000 in
set_option maxRecDepth 100000 in
theorem rvnums_any (h : Ry w x tb lb sb most seed R n own Rd lm sm l0 d) (id : Nat) (hid : id ≤ 18446744073709551615) :
    Calls Try.prog 36 #[.pointer (some ⟨x, 0, none⟩), .int .u64 (id : Int)] w (RowP w 3 (numsV (numsE d.all id)) (errE d.all id)) := by
  cases hl : liveE d.all id
  · have HF := Lib.hid (rvfind_no h id hid hl)
    have he : errE d.all id = 9 := by unfold errE; rw [if_neg (by rw [hl]; decide)]
    have ht : numsE d.all id = [] := by unfold numsE; unfold liveE at hl; rw [Option.isSome_eq_false_iff, Option.isNone_iff_eq_none] at hl; rw [hl]
    rw [he, ht]
    have HC := Lib.hid (fun W => cloneI_any (.slice none 0 0) [] W (Reads.nil _ _ _) (by decide))
    clear h hl he ht
    go_enter Try.func36, Try.ntmps36
    go_wp2_with (first
      | (go_at_call 63; refine HF.out.mono ?_; rintro e w1 ⟨rfl, b1⟩)
      | (go_at_call 60; refine (HC.out _).mono ?_; rintro e w2 ⟨v, rfl, hv, b2⟩))
    go_ret2
    have hb1 := b1.alloc b1.size (.cells #[.slice none 0 0, .slice none 0 0] 118)
    exact ⟨v, rfl, ownsRow_low hv hb1.size, hb1.trans (b2.mono hb1.size)⟩
  · have HF := Lib.hid (rvfind_yes h id hid hl)
    have he : errE d.all id = 0 := by unfold errE; rw [if_pos hl]
    have hr := (h.ent hl).2.1.rd
    have hn := (h.ent hl).2.2.2
    rw [he]
    generalize numsE d.all id = ts at *
    generalize mget entZ lm id = z at *
    obtain ⟨⟨p1, n1, k1⟩, ⟨p2, n2, k2⟩⟩ := z
    have HC := Lib.hid (fun W hW => cloneI_any _ ts W (hr.below hW) (by omega))
    clear h hl he hr
    go_enter Try.func36, Try.ntmps36
    go_wp2_with (go_at_call 63; refine HF.out.mono ?_; rintro e w1 ⟨rfl, b1⟩)
    have hb1 := b1.alloc b1.size (.cells #[.slice p1 n1 k1, .slice p2 n2 k2] 118)
    refine (HC.out _ hb1).mono ?_
    rintro e w2 ⟨v, rfl, hv, b2⟩
    have HV := Lib.hid (And.intro hv b2)
    clear HC HF hv b2
    go_wp2_with fail
    go_ret2
    exact ⟨v, rfl, ownsRow_low HV.out.1 hb1.size, hb1.trans (HV.out.2.mono hb1.size)⟩
/-- The slots of a number, where there are any or none. -/
theorem Ry.slc (h : Ry w x tb lb sb most seed R n own Rd lm sm l0 d) (k : Nat) : w.ownsRow 0 29 1 (slcV (mget slcZ sm k)) (ofX d.sl k).length (idsV (ofX d.sl k)) := by
  by_cases hk : ofX d.sl k = []
  · have h1 := h.sv.has k
    rw [hk] at h1 ⊢
    rw [mget_none (by rw [h1]; rfl)]
    exact World.ownsRow_nil _ _ _ _
  · exact (h.sv.at_ k hk).1
theorem ofX_len (S : List (Nat × Nat)) (k : Nat) : (ofX S k).length ≤ S.length := by
  unfold ofX
  rw [List.length_map]
  exact List.length_filter_le _ _
def slotsN (S : List (Nat × Nat)) (t : Int) : List Nat := if numB t = true then ofX S t.toNat else []
set_option maxHeartbeats 1000000 in
set_option maxRecDepth 100000 in
theorem rvslots_any (h : Ry w x tb lb sb most seed R n own Rd lm sm l0 d) (hn : n ≤ 100000) (t : Int) :
    Calls Try.prog 52 #[.pointer (some ⟨x, 0, none⟩), .int .i64 t] w (RowP w 29 (idsV (slotsN d.sl t)) (if numB t = true then 0 else 2)) := by
  obtain ⟨d0, d1, d2, d3, d4, d5⟩ := h.cells
  have HC := Lib.hid (rvcheck_any d0 t)
  unfold slotsN
  cases ht : numB t
  · rw [ht] at HC
    clear h d0 d1 d2 d3 d4 d5 ht
    go_enter Try.func52, Try.ntmps52
    go_wp2_with (go_at_call 73; refine HC.out.mono ?_; rintro e w1 ⟨rfl, rfl⟩)
    go_ret2
    exact ⟨_, rfl, World.ownsRow_nil _ _ _ _, Below.refl _ _⟩
  · rw [ht] at HC
    obtain ⟨k, rfl⟩ : ∃ k : Nat, t = k := ⟨t.toNat, by unfold numB at ht; simp at ht; omega⟩
    have hk : k < 65536 := by unfold numB at ht; simp at ht; omega
    have hlk := lookN h.sv.mp hk
    have hr := h.slc k
    have hlen : (ofX d.sl k).length ≤ 1000000 := by have := ofX_len d.sl k; have := h.ln.1; omega
    rw [if_pos rfl, if_pos rfl, Int.toNat_natCast]
    generalize ofX d.sl k = L at *
    have HK := Lib.hid (cloneU_any _ L 0 w hr hlen)
    generalize mget slcZ sm k = z at *
    obtain ⟨p1, n1, k1⟩ := z
    clear h d0 d1 d2 d4 d5 ht hr
    go_enter Try.func52, Try.ntmps52
    go_wp2_with (first
      | (go_at_call 73; refine HC.out.mono ?_; rintro e w1 ⟨rfl, rfl⟩)
      | (go_at_call 72; refine HK.out.mono ?_; rintro e w2 ⟨v, rfl, hv, b2⟩))
    go_ret2
    exact ⟨v, rfl, hv, b2⟩
end
end Go.Proofs.Ythngkimncdpekaa
