/- Stamps are different, and rise: what Restore and the document ask, plain. -/
import Derived.Test.YtckdfnlleaifcaaStnF
import Derived.Test.YtckdfnlleaifcaaStnC
namespace Go.Proofs.Ytckdfnlleaifcaa
set_option linter.unusedVariables false

/-- The stamps of a tag, the hard one first, if there is one. -/
def stP (p : Pg) : List Nat := (if p.hard = 0 then [] else [p.hard]) ++ p.soft.map (·.st)
def stL (d : List Tg) : List Nat := d.flatMap fun x => stP x.p
/-- The stamps of a tag rise. -/
def PUp (p : Pg) : Prop := (p.hard :: p.soft.map (·.st)).Pairwise (· < ·)
structure Iv (d : List Tg) : Prop where
  up : ∀ x ∈ d, PUp x.p
  nd : (stL d).Nodup
theorem stP_sub {h : Nat} {y : Sft} {r : List Sft} (hy : y.st ≠ 0) : (stP ⟨y.st, r⟩).Sublist (stP ⟨h, y :: r⟩) := by
  unfold stP
  show ((if y.st = 0 then [] else [y.st]) ++ r.map (·.st)).Sublist ((if h = 0 then [] else [h]) ++ (y.st :: r.map (·.st)))
  rw [if_neg hy]
  exact List.sublist_append_right _ _
theorem normP_rise {g now : Nat} : ∀ {l : List Sft} {h : Nat}, SUp l → PUp ⟨h, l⟩ → PUp (normP g now ⟨h, l⟩) ∧ (stP (normP g now ⟨h, l⟩)).Sublist (stP ⟨h, l⟩)
  | [], h, _, hp => ⟨hp, List.Sublist.refl _⟩
  | y :: r, h, hu, hp => by
    have hp' : (h :: y.st :: r.map (·.st)).Pairwise (· < ·) := hp
    obtain ⟨h1, h2⟩ := List.pairwise_cons.1 hp'
    have hlt := h1 y.st List.mem_cons_self
    cases ho : overB g now y.tm
    · have hs := softK_stays hu ho
      rw [normP_stay hs]
      exact ⟨hp, List.Sublist.refl _⟩
    · have e : normP g now ⟨h, y :: r⟩ = normP g now ⟨y.st, r⟩ := by
        unfold normP
        show (⟨hardK g now h (y :: r), softK g now (y :: r)⟩ : Pg) = ⟨hardK g now y.st r, softK g now r⟩
        rw [hardK_cons, if_pos ho, softK_cons_over ho, show max h y.st = y.st by omega]
      rw [e]
      obtain ⟨i1, i2⟩ := normP_rise (g := g) (now := now) (l := r) (h := y.st) (List.pairwise_cons.1 hu).2 h2
      exact ⟨i1, i2.trans (stP_sub (by omega))⟩
theorem stL_map_sub {f : Tg → Tg} : ∀ {d : List Tg}, (∀ x ∈ d, (stP (f x).p).Sublist (stP x.p)) → (stL (d.map f)).Sublist (stL d)
  | [], _ => List.Sublist.refl _
  | x :: d, h => by
    unfold stL
    rw [List.map_cons, List.flatMap_cons, List.flatMap_cons]
    exact List.Sublist.append (h x List.mem_cons_self) (stL_map_sub (fun y hy => h y (List.mem_cons_of_mem _ hy)))
theorem Iv.adv {now last : Nat} {d : List Tg} (h : Iv d) (hk : LOk now last d) (g now' : Nat) : Iv (advD g now' d) := by
  have hr : ∀ x ∈ d, PUp (normP g now' x.p) ∧ (stP (normP g now' x.p)).Sublist (stP x.p) := fun x hx => normP_rise (hk.p x hx).up (h.up x hx)
  refine ⟨fun x hx => ?_, h.nd.sublist (stL_map_sub (fun x hx => (hr x hx).2))⟩
  obtain ⟨y, hy, rfl⟩ := List.mem_map.1 hx
  exact (hr y hy).1
theorem stL_filter (q : Tg → Bool) : ∀ d : List Tg, (stL (d.filter q)).Sublist (stL d)
  | [] => List.Sublist.refl _
  | x :: d => by
    rw [List.filter_cons]
    unfold stL
    split
    · rw [List.flatMap_cons, List.flatMap_cons]
      exact List.Sublist.append (List.Sublist.refl _) (stL_filter q d)
    · rw [List.flatMap_cons]
      exact (stL_filter q d).trans (List.sublist_append_right _ _)
theorem Iv.del {d : List Tg} (h : Iv d) (t : Nat) : Iv (delT t d) := ⟨fun x hx => h.up x (List.mem_filter.1 hx).1, h.nd.sublist (stL_filter _ d)⟩
theorem insT_perm (x : Tg) : ∀ {d : List Tg}, TUp d → (insT x d).Perm (x :: delT x.tag d)
  | [], _ => List.Perm.refl _
  | y :: r, h => by
    obtain ⟨h1, h2⟩ := List.pairwise_cons.1 h
    have hall : (∀ z ∈ r, x.tag < z.tag) → delT x.tag r = r := fun hz => by
      unfold delT
      rw [List.filter_eq_self]
      intro z hzm
      have := hz z hzm
      have e : (z.tag == x.tag) = false := by simp; omega
      rw [e]
      rfl
    have hc : delT x.tag (y :: r) = if y.tag = x.tag then delT x.tag r else y :: delT x.tag r := by
      unfold delT
      rw [List.filter_cons]
      by_cases e : y.tag = x.tag <;> simp [e]
    rw [insT_c, hc]
    by_cases hlt : x.tag < y.tag
    · rw [if_pos hlt, if_neg (by omega), hall (fun z hz => by have := h1 z hz; omega)]
    · rw [if_neg hlt]
      by_cases he : x.tag = y.tag
      · rw [if_pos he, if_pos he.symm, hall (fun z hz => by have := h1 z hz; omega)]
      · rw [if_neg he, if_neg (fun e => he e.symm)]
        exact ((insT_perm x h2).cons y).trans (List.Perm.swap _ _ _)
theorem stL_perm {d d2 : List Tg} (h : d.Perm d2) : (stL d).Perm (stL d2) := h.flatMap_right _
theorem Iv.ins {d : List Tg} (h : Iv d) (hu : TUp d) {x : Tg} (hp : PUp x.p) (hn : (stP x.p ++ stL (delT x.tag d)).Nodup) : Iv (insT x d) := by
  refine ⟨fun z hz => ?_, ?_⟩
  · rcases insT_mem hz with rfl | hz
    · exact hp
    · exact h.up z hz
  · exact (stL_perm (insT_perm x hu)).nodup_iff.2 hn
theorem stL_le {now last : Nat} {d : List Tg} (hk : LOk now last d) : ∀ s ∈ stL d, s ≤ last := by
  intro s hs
  obtain ⟨x, hx, hs⟩ := List.mem_flatMap.1 hs
  unfold stP at hs
  rcases List.mem_append.1 hs with hs | hs
  · split at hs
    · cases hs
    · rw [List.mem_singleton.1 hs]
      exact (hk.p x hx).hard
  · obtain ⟨y, hy, rfl⟩ := List.mem_map.1 hs
    exact ((hk.p x hx).st y hy).2
theorem Iv.hard {now last now' : Nat} {d : List Tg} (h : Iv d) (hk : LOk now last d) (hn : now ≤ now') (g t : Nat) : Iv (hardD g now' (last + 1) t d) := by
  have ha := h.adv hk g now'
  have hk2 : LOk now' last (advD g now' d) := hk.norm g hn
  refine ha.ins hk2.up (List.pairwise_singleton _ _) ?_
  have e : stP (⟨last + 1, []⟩ : Pg) = [last + 1] := by
    unfold stP
    rw [if_neg (Nat.succ_ne_zero last)]
    rfl
  rw [e]
  refine List.nodup_cons.2 ⟨fun hm => ?_, (ha.del t).nd⟩
  have := stL_le hk2 _ ((stL_filter _ _).subset hm)
  omega
theorem addS_rise {n now h : Nat} {l : List Sft} (hp : PUp ⟨h, l⟩) (hl : ∀ x ∈ l, x.st < n) (hh : h < n) : PUp ⟨h, addS n now l⟩ ∧ ∃ l2, l2.Sublist l ∧ (addS n now l) = l2 ++ [⟨n, now⟩] := by
  have key : ∀ l2 : List Sft, l2.Sublist l → PUp ⟨h, l2 ++ [⟨n, now⟩]⟩ := fun l2 hs => by
    have h1 : (h :: l2.map (·.st)).Pairwise (· < ·) := List.Pairwise.sublist ((hs.map (·.st)).cons_cons h) hp
    show (h :: (l2 ++ [(⟨n, now⟩ : Sft)]).map (·.st)).Pairwise (· < ·)
    rw [List.map_append, ← List.cons_append, List.pairwise_append]
    refine ⟨h1, List.pairwise_singleton _ _, fun a ha b hb => ?_⟩
    have hb : b = n := by simpa using hb
    subst hb
    rcases List.mem_cons.1 ha with rfl | ha
    · exact hh
    · obtain ⟨x, hx, rfl⟩ := List.mem_map.1 ha
      exact hl x (hs.subset hx)
  unfold addS
  split
  · split
    · exact ⟨key _ (List.dropLast_sublist _), _, List.dropLast_sublist _, rfl⟩
    · exact ⟨key _ (List.Sublist.refl _), _, List.Sublist.refl _, rfl⟩
  · rename_i hnone
    have : l = [] := List.getLast?_eq_none_iff.1 hnone
    subst this
    exact ⟨key [] (List.Sublist.refl _), [], List.Sublist.refl _, rfl⟩
theorem stP_known {d : List Tg} (hu : TUp d) (t : Nat) (hn : (stL d).Nodup) : (stP (knownP t d) ++ stL (delT t d)).Nodup := by
  unfold knownP
  cases hx : getT t d with
  | none => exact hn.sublist (stL_filter _ d)
  | some x =>
    obtain ⟨h1, h2⟩ := getT_mem hx
    have hp : d.Perm (x :: delT t d) := by
      have := insT_perm x hu
      rw [h2] at this
      have e : insT x d = d := by
        obtain ⟨A, B, rfl⟩ := List.append_of_mem h1
        exact insT_there hu rfl
      rwa [e] at this
    exact (stL_perm hp).nodup_iff.1 hn
theorem Iv.soft {now last now' : Nat} {d : List Tg} (h : Iv d) (hk : LOk now last d) (hn : now ≤ now') (g t : Nat) : Iv (softD g now' (last + 1) t d) := by
  have ha := h.adv hk g now'
  have hk2 : LOk now' last (advD g now' d) := hk.norm g hn
  have hkn := pok_known (t := t) hk2
  have hpu : PUp (knownP t (advD g now' d)) := by
    unfold knownP
    cases hx : getT t (advD g now' d) with
    | none => exact List.pairwise_singleton _ _
    | some x => exact ha.up x (getT_mem hx).1
  have hnd := stP_known hk2.up t ha.nd
  unfold softD
  generalize knownP t (advD g now' d) = P at *
  obtain ⟨ph, ps⟩ := P
  obtain ⟨r1, l2, r2, r3⟩ := addS_rise (n := last + 1) (now := now') hpu (fun x hx => by have := (hkn.st x hx).2; omega) (by have := hkn.hard; dsimp only at this; omega)
  have hup2 : SUp (addS (last + 1) now' ps) := addS_up hkn.up hkn.tm
  obtain ⟨n1, n2⟩ := normP_rise (g := g) (now := now') hup2 r1
  refine ha.ins hk2.up n1 (List.Nodup.sublist (List.Sublist.append n2 (List.Sublist.refl _)) ?_)
  show (stP ⟨ph, addS (last + 1) now' ps⟩ ++ stL (delT t (advD g now' d))).Nodup
  rw [r3]
  have e : stP (⟨ph, l2 ++ [⟨last + 1, now'⟩]⟩ : Pg) = stP ⟨ph, l2⟩ ++ [last + 1] := by
    unfold stP
    show _ ++ (l2 ++ [(⟨last + 1, now'⟩ : Sft)]).map (·.st) = _
    rw [List.map_append, ← List.append_assoc]
    rfl
  have hs : (stP (⟨ph, l2⟩ : Pg)).Sublist (stP ⟨ph, ps⟩) := by
    unfold stP
    exact List.Sublist.append (List.Sublist.refl _) (r2.map _)
  rw [e, List.append_assoc]
  have h5 : (stP (⟨ph, l2⟩ : Pg) ++ stL (delT t (advD g now' d))).Nodup := hnd.sublist (List.Sublist.append hs (List.Sublist.refl _))
  have hle : ∀ s ∈ stP (⟨ph, l2⟩ : Pg) ++ stL (delT t (advD g now' d)), s ≠ last + 1 := fun s hs2 e2 => by
    rcases List.mem_append.1 hs2 with h6 | h6
    · have h7 := hs.subset h6
      unfold stP at h7
      rcases List.mem_append.1 h7 with h8 | h8
      · split at h8
        · cases h8
        · have := hkn.hard; have := List.mem_singleton.1 h8; dsimp only at *; omega
      · obtain ⟨y, hy, rfl⟩ := List.mem_map.1 h8
        have := (hkn.st y hy).2; omega
    · have := stL_le hk2 _ ((stL_filter _ _).subset h6)
      omega
  refine (List.perm_middle.nodup_iff).2 (List.nodup_cons.2 ⟨fun hm => hle _ hm rfl, h5⟩)
/-! ### such a list is right for Restore -/
theorem okS_go {gr now last : Nat} : ∀ {l : List Sft} {b : Nat} {bt : Option Nat} {m : Mk} (rest : List Nat), Apart m → (b :: l.map (·.st)).Pairwise (· < ·) → SUp l → (∀ t, bt = some t → ∀ y ∈ l, t < y.tm) → (∀ y ∈ l, y.tm ≤ now ∧ overB gr now y.tm = false ∧ y.st ≤ last) →
    (l.map (·.st) ++ rest).Nodup → (∀ s ∈ l.map (·.st) ++ rest, mget false m s = false) → ∃ m', okS gr now last b bt l m = some m' ∧ Apart m' ∧ ∀ s ∈ rest, mget false m' s = false
  | [], b, bt, m, rest, ha, _, _, _, _, _, hs => ⟨m, rfl, ha, fun s h => hs s h⟩
  | y :: r, b, bt, m, rest, ha, hp, hu, hbt, hl, hn, hs => by
    obtain ⟨h1, h2⟩ := List.pairwise_cons.1 hp
    obtain ⟨u1, u2⟩ := List.pairwise_cons.1 hu
    obtain ⟨l1, l2, l3⟩ := hl y List.mem_cons_self
    have hn' : (y.st :: (r.map (·.st) ++ rest)).Nodup := hn
    obtain ⟨n1, n2⟩ := List.nodup_cons.1 hn'
    have hb : sofB gr now last b bt y m = true := by
      rw [sofB_is]
      have e1 : bt.all (fun t => decide (t < y.tm)) = true := by
        cases bt with
        | none => rfl
        | some t => exact decide_eq_true (hbt t rfl y List.mem_cons_self)
      have e2 : fineM m last y.st = true := by
        unfold fineM
        rw [hs y.st (List.mem_append.2 (.inl List.mem_cons_self)), decide_eq_true l3]
        rfl
      rw [decide_eq_true (h1 y.st List.mem_cons_self), e1, decide_eq_true l1, l2, e2]
      rfl
    rw [okS_cons, if_pos hb]
    refine okS_go (l := r) rest (ha.put _ _) h2 u2 (fun t ht z hz => by cases ht; exact u1 z hz) (fun z hz => hl z (List.mem_cons_of_mem _ hz)) n2 (fun s h => ?_)
    rw [mget_put_other ha (fun e => n1 (by rw [← e]; exact h))]
    refine hs s ?_
    show s ∈ y.st :: (r.map (·.st) ++ rest)
    exact List.mem_cons_of_mem _ h
def rwE (E : List Ev) : List Rw := E.map fun e => ⟨(e.x.tag : Int), e.x.p, e.v⟩
theorem okL_go {gr now last : Nat} : ∀ {R : List Rw} {prev : Option Int} {m : Mk}, Apart m → R.Pairwise (fun x y => x.tag < y.tag) → (∀ x ∈ R, EOk gr now last none x ∧ PUp x.p ∧ ∀ t, prev = some t → t < x.tag) → (R.flatMap fun x => stP x.p).Nodup → (∀ s ∈ R.flatMap fun x => stP x.p, mget false m s = false) → (okL gr now last prev R m).isSome = true
  | [], _, _, _, _, _, _, _ => rfl
  | x :: r, prev, m, ha, hu, hx, hn, hs => by
    obtain ⟨h1, h2⟩ := List.pairwise_cons.1 hu
    obtain ⟨e1, e2, e3⟩ := hx x List.mem_cons_self
    rw [List.flatMap_cons] at hn hs
    have hent : entB prev x = true := entB_good e1.tag e3 e1.ne
    have hpw : (x.p.hard :: x.p.soft.map (·.st)).Pairwise (· < ·) := e2
    rw [okL_cons]
    have hgo : ∃ m', okE gr now last prev x m = some m' ∧ Apart m' ∧ ∀ s ∈ r.flatMap fun x => stP x.p, mget false m' s = false := by
      by_cases h0 : x.p.hard = 0
      · rw [okE_zero hent h0]
        have e : stP x.p = x.p.soft.map (·.st) := by unfold stP; rw [if_pos h0]; rfl
        rw [e] at hn hs
        rw [h0] at hpw
        exact okS_go _ ha hpw e1.ok.up (fun t ht => by cases ht) (fun y hy => ⟨e1.ok.tm y hy, e1.stay y hy, (e1.ok.st y hy).2⟩) hn hs
      · have e : stP x.p = x.p.hard :: x.p.soft.map (·.st) := by unfold stP; rw [if_neg h0]; rfl
        rw [e] at hn hs
        obtain ⟨n1, n2⟩ := List.nodup_cons.1 (show (x.p.hard :: (x.p.soft.map (·.st) ++ r.flatMap fun x => stP x.p)).Nodup from hn)
        have hf : fineM m last x.p.hard = true := by
          unfold fineM
          rw [hs _ (List.mem_append.2 (.inl List.mem_cons_self)), decide_eq_true e1.ok.hard]
          rfl
        rw [okE_fine hent h0 hf]
        refine okS_go _ (ha.put _ _) hpw e1.ok.up (fun t ht => by cases ht) (fun y hy => ⟨e1.ok.tm y hy, e1.stay y hy, (e1.ok.st y hy).2⟩) n2 (fun s h => ?_)
        rw [mget_put_other ha (fun e => n1 (by rw [← e]; exact h))]
        exact hs s (List.mem_cons_of_mem _ h)
    obtain ⟨m', k1, k2, k3⟩ := hgo
    rw [k1]
    show (okL gr now last (some x.tag) r m').isSome = true
    exact okL_go k2 h2 (fun z hz => ⟨(hx z (List.mem_cons_of_mem _ hz)).1, (hx z (List.mem_cons_of_mem _ hz)).2.1, fun t ht => by cases ht; exact h1 z hz⟩) (List.nodup_append.1 hn).2.1 k3
theorem Apart.nil {α : Type} : Apart ([] : List (Nat × α)) := List.Pairwise.nil
theorem okL_list {gr now last : Nat} {E : List Ev} {d : List Tg} (hd : unE E = d) (hk : LOk now last d) (hn : LNe d) (ha : advD gr now d = d) (hi : Iv d) : (okL gr now last none (rwE E) []).isSome = true := by
  subst hd
  have hst : ∀ x ∈ unE E, ∀ y ∈ x.p.soft, overB gr now y.tm = false := fun x hx y hy => by
    rw [← ha] at hx
    obtain ⟨z, hz, rfl⟩ := List.mem_map.1 hx
    exact softK_over y hy
  have hfl : (rwE E).flatMap (fun x => stP x.p) = stL (unE E) := by
    unfold rwE stL unE
    rw [List.flatMap_map, List.flatMap_map]
  refine okL_go Apart.nil ?_ (fun x hx => ?_) (by rw [hfl]; exact hi.nd) (fun s _ => rfl)
  · unfold rwE
    rw [List.pairwise_map]
    have := hk.up
    unfold TUp unE at this
    rw [List.pairwise_map] at this
    exact this.imp (fun {a b} h => by show (a.x.tag : Int) < (b.x.tag : Int); omega)
  · obtain ⟨e, he, rfl⟩ := List.mem_map.1 hx
    have hm : e.x ∈ unE E := List.mem_map.2 ⟨e, he, rfl⟩
    have ht := hk.tag _ hm
    exact ⟨⟨by unfold tagB; simp; omega, (fun t ht => by cases ht), hn _ hm, hk.p _ hm, hst _ hm⟩, hi.up _ hm, fun t ht => by cases ht⟩
theorem tgR_rwE (E : List Ev) : tgR (rwE E) = unE E := by
  unfold tgR rwE unE
  rw [List.map_map]
  rfl
end Go.Proofs.Ytckdfnlleaifcaa
