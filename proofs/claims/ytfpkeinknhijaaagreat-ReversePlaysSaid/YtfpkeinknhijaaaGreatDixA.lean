/- The document's index in memory: what is read of it; Tags, Find. -/
import Derived.Test.YtfpkeinknhijaaaGreatRefGa
import Derived.Test.YtfpkeinknhijaaaGreatDixP
import Derived.Test.YtfpkeinknhijaaaGreatRevR
namespace Go.Proofs.YtfpkeinknhijaaaGreat
set_option linter.unusedVariables false
open Go.RowKit Go.Maps Go.Sort

/-- A row of elements of s cells each, at the beginning of a block of P. -/
def RowS (w : World) (P : Nat → Prop) (p : Option Addr) (n cap : Nat) (xs : List Value) : Prop :=
  n = 0 ∨ ∃ g, p = some ⟨g, 0, none⟩ ∧ g < w.heap.size ∧ P g ∧ n ≤ cap ∧ ∀ j u, xs[j]? = some u → w.cell? ⟨g, j, none⟩ = some u
theorem RowS.below {w w' : World} {P : Nat → Prop} {p : Option Addr} {n cap : Nat} {xs : List Value} (h : RowS w P p n cap xs) (hb : Below w.heap.size w w') : RowS w' P p n cap xs := by
  rcases h with h | ⟨g, h1, h2, h3, h4, h5⟩
  · exact .inl h
  · exact .inr ⟨g, h1, Nat.lt_of_lt_of_le h2 hb.size, h3, h4, fun j u hu => (hb.cell (p := ⟨g, j, none⟩) h2).trans (h5 j u hu)⟩
theorem RowS.more {w : World} {P P' : Nat → Prop} {p : Option Addr} {n cap : Nat} {xs : List Value} (h : RowS w P p n cap xs) (hP : ∀ g, P g → P' g) : RowS w P' p n cap xs := by
  rcases h with h | ⟨g, h1, h2, h3, h4⟩
  · exact .inl h
  · exact .inr ⟨g, h1, h2, hP g h3, h4⟩
theorem RowS.only {w w' : World} {P U : Nat → Prop} {p : Option Addr} {n cap : Nat} {xs : List Value} (h : RowS w P p n cap xs) (ho : Only U w w') (hU : ∀ g, P g → ¬ U g) : RowS w' P p n cap xs := by
  rcases h with h | ⟨g, h1, h2, h3, h4, h5⟩
  · exact .inl h
  · exact .inr ⟨g, h1, Nat.lt_of_lt_of_le h2 ho.size, h3, h4, fun j u hu => (World.cell?_of_block (w := w) (a := ⟨g, j, none⟩) (ho.block g h2 (hU g h3))).trans (h5 j u hu)⟩
theorem RowS.of_own {w : World} {P : Nat → Prop} {B s n cap : Nat} {t : TypeId} {p : Option Addr} {xs : List Value} (h : w.ownsRow B t s (.slice p n cap) n xs) (hs : 0 < s) (hP : ∀ g, (Value.slice p n cap).ownBlock = some g → P g) : RowS w P p n cap xs := by
  rcases Nat.eq_zero_or_pos n with h0 | h0
  · exact .inl h0
  · obtain ⟨g, c, hv, hb, hg⟩ := h.form h0
    injection hv with e1 e2 e3
    subst e1 e3
    have hc : n ≤ cap := by
      rcases h.2 with ⟨h1, h2⟩ | ⟨g', cap', cur, h1, h2, h3, h4, h5, h6⟩
      · omega
      · injection h1 with e1 e2 e3
        omega
    refine .inr ⟨g, rfl, hg, hP g rfl, hc, fun j u hu => ?_⟩
    have hl := (List.getElem?_eq_some_iff.1 hu).1
    rw [h.cellAt j (by rw [h.1] at hl; exact hl)]
    exact hu
theorem RowS.at_ {w : World} {P : Nat → Prop} {p : Option Addr} {n cap : Nat} {xs : List Value} (h : RowS w P p n cap xs) (h0 : 0 < n) : ∃ g, p = some ⟨g, 0, none⟩ ∧ g < w.heap.size ∧ P g ∧ n ≤ cap ∧ ∀ j u, xs[j]? = some u → w.cell? ⟨g, j, none⟩ = some u := by
  rcases h with h | h
  · omega
  · exact h
theorem RowS.reads {w : World} {P : Nat → Prop} {p : Option Addr} {cap : Nat} {xs : List Value} (h : RowS w P p xs.length cap xs) (hl : xs.length ≤ 1000000) : Reads w (.slice p xs.length cap) xs := by
  refine ⟨p, cap, rfl, by omega, ?_⟩
  rcases h with h | ⟨g, h1, h2, h3, h4, h5⟩
  · exact .inl h
  · exact .inr ⟨g, 0, h1, h2, h4, fun i x hx => by rw [Nat.zero_add]; exact h5 i x hx⟩
/-- Where an entry's tags and numbers lie. -/
structure Ec where
  pt : Option Addr
  ct : Nat
  pn : Option Addr
  cn : Nat
abbrev enCs (e : En) (c : Ec) : List Value := [.int .u64 (e.id : Int), .slice c.pt e.tags.length c.ct, .slice c.pn e.nums.length c.cn, .bool e.live]
def ensCs : List En → List Ec → List Value
  | e :: A, c :: C => enCs e c ++ ensCs A C
  | _, _ => []
def slCs : List (Nat × Nat) → List Value
  | [] => []
  | s :: r => .int .i64 (s.1 : Int) :: .int .u64 (s.2 : Int) :: slCs r
theorem ens_len : ∀ {A : List En} {C : List Ec}, C.length = A.length → (ensCs A C).length = A.length * 4
  | [], C, _ => by unfold ensCs; simp
  | e :: A, [], h => by simp at h
  | e :: A, c :: C, h => by
    simp only [List.length_cons, Nat.add_right_cancel_iff] at h
    rw [ensCs, List.length_append, ens_len h, List.length_cons]
    simp
    omega
theorem ens_get : ∀ {A : List En} {C : List Ec} {i : Nat} {e : En} {c : Ec}, A[i]? = some e → C[i]? = some c → ∀ j, j < 4 → (ensCs A C)[i * 4 + j]? = (enCs e c)[j]?
  | [], C, i, e, c, h, _, j, hj => by simp at h
  | e' :: A, [], i, e, c, _, h, j, hj => by simp at h
  | e' :: A, c' :: C, 0, e, c, h1, h2, j, hj => by
    simp only [List.getElem?_cons_zero, Option.some.injEq] at h1 h2
    subst h1 h2
    rw [ensCs, Nat.zero_mul, Nat.zero_add, List.getElem?_append_left (by simpa using hj)]
  | e' :: A, c' :: C, i + 1, e, c, h1, h2, j, hj => by
    rw [List.getElem?_cons_succ] at h1 h2
    rw [ensCs, List.getElem?_append_right (by simp; omega)]
    rw [show (i + 1) * 4 + j - (enCs e' c').length = i * 4 + j by simp; omega]
    exact ens_get h1 h2 j hj
theorem ens_app : ∀ {A : List En} {C : List Ec} (B : List En) (D : List Ec), C.length = A.length → ensCs (A ++ B) (C ++ D) = ensCs A C ++ ensCs B D
  | [], C, B, D, h => by
    have : C = [] := by simpa using h
    subst this
    simp [ensCs]
  | e :: A, [], B, D, h => by simp at h
  | e :: A, c :: C, B, D, h => by
    simp only [List.length_cons, Nat.add_right_cancel_iff] at h
    show enCs e c ++ ensCs (A ++ B) (C ++ D) = _
    rw [ens_app B D h, ensCs, List.append_assoc]
theorem sl_len : ∀ S : List (Nat × Nat), (slCs S).length = S.length * 2
  | [] => rfl
  | s :: r => by rw [slCs, List.length_cons, List.length_cons, sl_len r, List.length_cons]; omega
theorem sl_get : ∀ {S : List (Nat × Nat)} {i : Nat} {s : Nat × Nat}, S[i]? = some s → (slCs S)[i * 2]? = some (.int .i64 (s.1 : Int)) ∧ (slCs S)[i * 2 + 1]? = some (.int .u64 (s.2 : Int))
  | [], i, s, h => by simp at h
  | x :: r, 0, s, h => by
    simp only [List.getElem?_cons_zero, Option.some.injEq] at h
    subst h
    exact ⟨rfl, rfl⟩
  | x :: r, i + 1, s, h => by
    rw [List.getElem?_cons_succ] at h
    have := sl_get h
    rw [slCs, show (i + 1) * 2 = i * 2 + 1 + 1 by omega, List.getElem?_cons_succ, List.getElem?_cons_succ, show i * 2 + 1 + 1 + 1 = (i * 2 + 1) + 1 + 1 by omega, List.getElem?_cons_succ, List.getElem?_cons_succ]
    exact this
theorem sl_app : ∀ (S T : List (Nat × Nat)), slCs (S ++ T) = slCs S ++ slCs T
  | [], T => rfl
  | s :: r, T => by
    show _ :: _ :: slCs (r ++ T) = _ :: _ :: (slCs r ++ slCs T)
    rw [sl_app r T]
/-- Where an index lies. -/
structure Dp where
  p : Option Addr
  c : Nat
  pA : Option Addr
  cA : Nat
  pS : Option Addr
  cS : Nat
  C : List Ec
abbrev dixCs (most : Int) (d : Dx) (a : Dp) : Array Value := #[.int .i64 most, .slice a.p d.nm.length a.c, .slice a.pA d.all.length a.cA, .slice a.pS d.sl.length a.cS]
abbrev dixV (most : Int) (d : Dx) (a : Dp) : Value := .agg (dixCs most d a)
structure Dix (w : World) (P : Nat → Prop) (d : Dx) (a : Dp) : Prop where
  names : Rf w 0 a.p a.c d.nm
  namesP : ∀ g, (Value.slice a.p 0 0).ownBlock = some g → P g
  all : RowS w P a.pA d.all.length a.cA (ensCs d.all a.C)
  slots : RowS w P a.pS d.sl.length a.cS (slCs d.sl)
  len : a.C.length = d.all.length
  sub : ∀ (i : Nat) (e : En) (c : Ec), d.all[i]? = some e → a.C[i]? = some c → RowS w P c.pt e.tags.length c.ct (e.tags.map encStr) ∧ RowS w P c.pn e.nums.length c.cn (numsV e.nums)
section
variable {w w' : World} {P : Nat → Prop} {d : Dx} {a : Dp}
theorem Dix.below (h : Dix w P d a) (hb : Below w.heap.size w w') : Dix w' P d a := ⟨ownsRow_below h.names hb, h.namesP, h.all.below hb, h.slots.below hb, h.len, fun i e c h1 h2 => ⟨(h.sub i e c h1 h2).1.below hb, (h.sub i e c h1 h2).2.below hb⟩⟩
theorem Dix.more (h : Dix w P d a) {P' : Nat → Prop} (hP : ∀ g, P g → P' g) : Dix w P' d a := ⟨h.names, fun g hg => hP g (h.namesP g hg), h.all.more hP, h.slots.more hP, h.len, fun i e c h1 h2 => ⟨(h.sub i e c h1 h2).1.more hP, (h.sub i e c h1 h2).2.more hP⟩⟩
theorem Dix.only (h : Dix w P d a) {U : Nat → Prop} (ho : Only U w w') (hU : ∀ g, P g → ¬ U g) : Dix w' P d a := ⟨ownsRow_only h.names ho (fun g hg => hU g (h.namesP g (by rw [← hg]; cases a.p <;> rfl))), h.namesP, h.all.only ho hU, h.slots.only ho hU, h.len, fun i e c h1 h2 => ⟨(h.sub i e c h1 h2).1.only ho hU, (h.sub i e c h1 h2).2.only ho hU⟩⟩
theorem Dix.ec (h : Dix w P d a) {i : Nat} {e : En} (he : d.all[i]? = some e) : ∃ c, a.C[i]? = some c := ⟨_, List.getElem?_eq_getElem (by rw [h.len]; exact (List.getElem?_eq_some_iff.1 he).1)⟩
theorem Dix.nil (w : World) (P : Nat → Prop) : Dix w P ⟨[], [], []⟩ ⟨none, 0, none, 0, none, 0, []⟩ := ⟨World.ownsRow_nil _ _ _ _, fun g hg => (by simp [Value.ownBlock] at hg), .inl rfl, .inl rfl, rfl, fun i e c h => (by simp at h)⟩
end
/-- The place of a live entry, or -1. -/
def findE (A : List En) (id : Nat) : Int := match A.findIdx? (fun e => e.id == id && e.live) with | some i => (i : Int) | none => -1
theorem notB {e : En} {id : Nat} (h : ¬ (e.id = id ∧ e.live = true)) : (e.id == id && e.live) = false := by
  cases hb : (e.id == id && e.live) with
  | false => rfl
  | true =>
    rw [Bool.and_eq_true, beq_iff_eq] at hb
    exact absurd hb h
theorem findE_some {A : List En} {id k : Nat} {e : En} (he : A[k]? = some e) (hi : e.id = id ∧ e.live = true) (hk : ∀ (j : Nat) (e' : En), j < k → A[j]? = some e' → ¬ (e'.id = id ∧ e'.live = true)) : findE A id = (k : Int) ∧ getE A id = some e := by
  have h1 : A.findIdx? (fun e => e.id == id && e.live) = some k := by
    rw [List.findIdx?_eq_some_iff_getElem]
    obtain ⟨hl, rfl⟩ := List.getElem?_eq_some_iff.1 he
    refine ⟨hl, by simp [hi.1, hi.2], fun j hj => ?_⟩
    have := notB (hk j A[j] hj (List.getElem?_eq_getElem (by omega)))
    rw [this]
    decide
  refine ⟨by unfold findE; rw [h1], ?_⟩
  unfold getE
  rw [List.find?_eq_some_iff_getElem]
  obtain ⟨hl, rfl⟩ := List.getElem?_eq_some_iff.1 he
  refine ⟨by simp [hi.1, hi.2], k, hl, rfl, fun j hj => ?_⟩
  have := notB (hk j A[j] hj (List.getElem?_eq_getElem (by omega)))
  rw [this]
  rfl
theorem findE_none {A : List En} {id : Nat} (hk : ∀ (j : Nat) (e' : En), A[j]? = some e' → ¬ (e'.id = id ∧ e'.live = true)) : findE A id = -1 ∧ getE A id = none := by
  have h2 : ∀ e ∈ A, ¬ (e.id = id ∧ e.live = true) := fun e he => by
    obtain ⟨j, hj⟩ := List.getElem?_of_mem he
    exact hk j e hj
  constructor
  · unfold findE
    rw [List.findIdx?_eq_none_iff.2 (fun e he => notB (h2 e he))]
  · unfold getE
    rw [List.find?_eq_none]
    intro e he
    rw [notB (h2 e he)]
    decide
theorem findE_live (A : List En) (id : Nat) : (liveE A id = true ∧ 0 ≤ findE A id) ∨ (liveE A id = false ∧ findE A id = -1) := by
  cases h : A.findIdx? (fun e => e.id == id && e.live) with
  | none =>
    have h2 := List.findIdx?_eq_none_iff.1 h
    refine .inr ⟨?_, by unfold findE; rw [h]⟩
    unfold liveE getE
    rw [List.find?_eq_none.2 (fun e he => by rw [h2 e he]; decide)]
    rfl
  | some i =>
    obtain ⟨hl, hp, -⟩ := List.findIdx?_eq_some_iff_getElem.1 h
    rw [Bool.and_eq_true, beq_iff_eq] at hp
    exact .inl ⟨liveE_iff.2 ⟨A[i], List.getElem_mem hl, hp.1, hp.2⟩, by unfold findE; rw [h]; show (0 : Int) ≤ (i : Int); omega⟩
set_option maxHeartbeats 4000000 in
set_option maxRecDepth 100000 in
theorem xfind_any {w : World} {P : Nat → Prop} {d : Dx} {a : Dp} (h : Dix w P d a) (most : Int) (hl : d.all.length ≤ 1000000) (id : Nat) :
    Calls Tryz.prog 43 #[dixV most d a, .int .u64 (id : Int)] w fun e w' => e = .returned (.int .i64 (findE d.all id)) ∧ Below w.heap.size w w' := by
  have HB : Hid (Below w.heap.size w (w.alloc (.cells (dixCs most d a) 35))) := (Below.refl _ _).alloc (Nat.le_refl _) _
  have HBX : Hid (Blk (w.alloc (.cells (dixCs most d a) 35)) w.heap.size 35 (dixCs most d a)) := Blk.new _ _ _
  have H := Lib.hid (h.below HB.out)
  have d1 := Blk.cell HBX.out 2
  simp only [List.getElem?_toArray, List.getElem?_cons_zero, List.getElem?_cons_succ] at d1
  obtain ⟨N, hN⟩ : ∃ N, d.all.length = N := ⟨_, rfl⟩
  have HN := Lib.hid hN
  rw [hN] at d1 hl
  clear h hN
  go_enter Tryz.func43, Tryz.ntmps43
  go_wp2_with fail
  try rw [HN.out]
  go_loopg [5] N (fun r v wr => ∃ k : Nat, k ≤ N ∧ r + k = N ∧ v = .int .i64 (k : Int) ∧ wr = w.alloc (.cells (dixCs most d a) 35) ∧ Hid (∀ j e', j < k → d.all[j]? = some e' → ¬ (e'.id = id ∧ e'.live = true)))
  case atStart => exact ⟨0, by omega, by omega, rfl, rfl, fun j e' hj => absurd hj (Nat.not_lt_zero _)⟩
  case round =>
    obtain ⟨k, hk, hr, rfl, rfl, HNO⟩ := hrel
    have HR := Lib.hid hr
    clear hr
    by_cases hlt : k < N
    · obtain ⟨e, he⟩ : ∃ e, d.all[k]? = some e := ⟨_, List.getElem?_eq_getElem (by rw [HN.out]; exact hlt)⟩
      obtain ⟨c, hc⟩ := H.out.ec he
      obtain ⟨g, hp, hg, -, -, hcell⟩ := H.out.all.at_ (by rw [HN.out]; omega)
      have n0 := hcell (k * 4 + 0) _ ((ens_get he hc 0 (by decide)).trans rfl)
      have n3 := hcell (k * 4 + 3) _ ((ens_get he hc 3 (by decide)).trans rfl)
      rw [hp] at d1
      simp only [Nat.add_zero] at n0
      have HE := Lib.hid he
      have HSTEP : Hid (¬ (e.id = id ∧ e.live = true) → ∀ j e', j < k + 1 → d.all[j]? = some e' → ¬ (e'.id = id ∧ e'.live = true)) := fun h1 j e' hj hj2 => by
        rcases Nat.lt_or_eq_of_le (Nat.le_of_lt_succ hj) with h2 | h2
        · exact HNO j e' h2 hj2
        · subst h2
          rw [he] at hj2
          injection hj2 with hj2
          rw [← hj2]
          exact h1
      obtain ⟨ei, hei⟩ : ∃ ei, e.id = ei := ⟨_, rfl⟩
      obtain ⟨el, hel⟩ : ∃ el, e.live = el := ⟨_, rfl⟩
      rw [hei] at n0 HSTEP
      rw [hel] at n3 HSTEP
      have HEI := Lib.hid hei
      have HEL := Lib.hid hel
      clear hcell hc he hei hel hg hp
      by_cases h1 : ei = id
      · subst h1
        cases el with
        | true =>
          have hf := Lib.hid (findE_some HE.out ⟨HEI.out, HEL.out⟩ HNO)
          clear HSTEP HNO
          go_wp2_with fail
          go_ret
          exact ⟨by rw [hf.out.1]; rfl, HB.out⟩
        | false =>
          go_wp2_with fail
          go_roundg (N - (k + 1))
          case measure => have := HR.out; omega
          case rel => exact ⟨k + 1, by omega, by omega, by go_num, rfl, HSTEP.out (fun h => by cases h.2)⟩
      · have h2 : ¬ (ei : Int) = (id : Int) := by omega
        go_wp2_with fail
        go_roundg (N - (k + 1))
        case measure => have := HR.out; omega
        case rel => exact ⟨k + 1, by omega, by omega, by go_num, rfl, HSTEP.out (fun h => h1 h.1)⟩
    · obtain rfl : k = N := by omega
      have hf := Lib.hid (findE_none (A := d.all) (id := id) (fun j e' he => HNO j e' (by have := (List.getElem?_eq_some_iff.1 he).1; rw [HN.out] at this; exact this) he))
      clear HNO
      go_wp2_with fail
      go_ret
      exact ⟨by rw [hf.out.1]; rfl, HB.out⟩
end Go.Proofs.YtfpkeinknhijaaaGreat
