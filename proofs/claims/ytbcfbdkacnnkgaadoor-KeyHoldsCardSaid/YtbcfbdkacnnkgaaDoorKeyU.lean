/- The law KeyHolds: it returns true. -/
import Derived.Test.YtbcfbdkacnnkgaaDoorKeyV
import Derived.Deep.DeepCutAuto
namespace Go.Proofs.YtbcfbdkacnnkgaaDoor
set_option linter.unusedVariables false
open Go.RowKit

theorem kFold_spec (s : Bs) : ∀ k, (∀ p ∈ kFold s k, ∃ m, 1 ≤ m ∧ m ≤ k ∧ m ≤ s.length ∧ p = s.take m ∧ s[m - 1]? = some 47) ∧ (kFold s k).Pairwise (fun a b => a.length ≤ b.length) ∧ (kFold s k).length = (s.take k).count 47 := by
  intro k
  induction k with
  | zero => exact ⟨fun p hp => by simp [kFold] at hp, by simp [kFold], by simp [kFold]⟩
  | succ k ih =>
    obtain ⟨h1, h2, h3⟩ := ih
    by_cases e : s[k]? = some 47
    · have hk : k < s.length := by
        rcases Nat.lt_or_ge k s.length with h | h
        · exact h
        · rw [List.getElem?_eq_none h] at e; cases e
      have ef : kFold s (k + 1) = kFold s k ++ [s.take (k + 1)] := by rw [kFold, if_pos e]
      rw [ef]
      refine ⟨fun p hp => ?_, ?_, ?_⟩
      · rcases List.mem_append.1 hp with hp | hp
        · obtain ⟨m, a, b, c, d, f⟩ := h1 p hp
          exact ⟨m, a, by omega, c, d, f⟩
        · simp only [List.mem_singleton] at hp
          exact ⟨k + 1, by omega, by omega, by omega, hp, by simpa using e⟩
      · rw [List.pairwise_append]
        refine ⟨h2, by simp, fun a ha b hb => ?_⟩
        simp only [List.mem_singleton] at hb
        obtain ⟨m, _, b', c, d, _⟩ := h1 a ha
        rw [hb, d, List.length_take, List.length_take]
        omega
      · rw [List.length_append, h3, take_snoc s k 47 e, List.count_append]
        simp
    · have ef : kFold s (k + 1) = kFold s k := by rw [kFold, if_neg e]
      rw [ef]
      refine ⟨fun p hp => ?_, h2, ?_⟩
      · obtain ⟨m, a, b, c, d, f⟩ := h1 p hp
        exact ⟨m, a, by omega, c, d, f⟩
      · rw [h3]
        rcases Nat.lt_or_ge k s.length with h | h
        · rw [take_snoc s k s[k] (List.getElem?_eq_getElem h), List.count_append]
          have : s[k] ≠ 47 := fun h' => e (by rw [List.getElem?_eq_getElem h, h'])
          simp [this]
        · rw [List.take_of_length_le h, List.take_of_length_le (by omega)]

theorem kFolders_len (s : Bs) : (kFolders s).length + 1 = (kSegs s).length := by
  have := (kFold_spec s s.length).2.2
  rw [List.take_length] at this
  rw [kSegs_length, ← this]
  rfl
/-- A folder: how it ends; it is a prefix of the key; the folder before it is a prefix of it. -/
theorem kFolders_at (s : Bs) (i : Nat) (p : Bs) (h : (kFolders s)[i]? = some p) :
    1 ≤ p.length ∧ p.length ≤ s.length ∧ p[p.length - 1]? = some 47 ∧ kHas s p = true ∧ (∀ q, 1 ≤ i → (kFolders s)[i - 1]? = some q → kHas p q = true) := by
  obtain ⟨h1, h2, _⟩ := kFold_spec s s.length
  obtain ⟨m, a, b, c, d, f⟩ := h1 p (List.mem_of_getElem? h)
  have hpl : p.length = m := by rw [d, List.length_take]; omega
  refine ⟨by omega, by omega, ?_, ?_, fun q hi hq => ?_⟩
  · rw [hpl, d, List.getElem?_take, if_pos (by omega)]
    exact f
  · rw [kHas_iff, hpl]
    exact ⟨c, d.symm⟩
  · obtain ⟨m2, a2, b2, c2, d2, f2⟩ := h1 q (List.mem_of_getElem? hq)
    have hql : q.length = m2 := by rw [d2, List.length_take]; omega
    have hle : q.length ≤ p.length := by
      have hh := List.pairwise_iff_getElem.1 h2
      have i1 : i < (kFold s s.length).length := by
        rcases Nat.lt_or_ge i (kFold s s.length).length with h' | h'
        · exact h'
        · have : (kFolders s)[i]? = none := List.getElem?_eq_none h'
          rw [this] at h; cases h
      have e1 : (kFold s s.length)[i] = p := by
        have : (kFolders s)[i]? = some (kFold s s.length)[i] := List.getElem?_eq_getElem i1
        exact Option.some.inj (this.symm.trans h)
      have e2 : (kFold s s.length)[i - 1] = q := by
        have : (kFolders s)[i - 1]? = some (kFold s s.length)[i - 1] := List.getElem?_eq_getElem (show i - 1 < (kFold s s.length).length by omega)
        exact Option.some.inj (this.symm.trans hq)
      have := hh (i - 1) i (by omega) i1 (by omega)
      rw [e1, e2] at this
      exact this
    rw [kHas_iff]
    refine ⟨hle, ?_⟩
    rw [hql, d, d2, List.take_take, Nat.min_eq_left (by omega)]

theorem kSegs_sum (s : Bs) : ((kSegs s).map (·.length)).sum ≤ s.length := by
  induction s with
  | nil => simp [kSegs]
  | cons c r ih =>
    unfold kSegs
    split
    · simp only [List.map_cons, List.length_nil, List.sum_cons, List.length_cons]; omega
    · cases h : kSegs r with
      | nil => exact absurd h (kSegs_ne r)
      | cons x xs =>
        rw [h] at ih
        simp only [kCons, List.map_cons, List.sum_cons, List.length_cons] at ih ⊢
        omega

theorem kIns_last (x : Bt) : ∀ acc : List Bt, (acc ++ [x]).Pairwise (· < ·) → kIns x acc = acc ++ [x] := by
  intro acc
  induction acc with
  | nil => intro _; rfl
  | cons y r ih =>
    intro h
    have h1 : y < x := (List.pairwise_cons.1 h).1 x (by simp)
    unfold kIns
    rw [if_pos h1, ih (List.pairwise_cons.1 h).2]
    rfl
theorem kUniq_of_sorted (l : List Bt) (h : l.Pairwise (· < ·)) : kUniq l = l := by
  have key : ∀ k, k ≤ l.length → kUniq (l.take k) = l.take k := by
    intro k
    induction k with
    | zero => intro _; rfl
    | succ k ih =>
      intro hk
      have hx : l[k]? = some l[k] := List.getElem?_eq_getElem (by omega)
      rw [take_snoc l k _ hx, kUniq_snoc, ih (by omega)]
      refine kIns_last _ _ ?_
      rw [← take_snoc l k _ hx]
      exact h.sublist (List.take_sublist _ _)
  have := key l.length (Nat.le_refl _)
  rwa [List.take_length] at this
theorem kTags_again (l : List Bt) (h : ((kTags l).2 == 0) = true) : kTags (kTags l).1 = ((kTags l).1, 0) := by
  unfold kTags at h
  split at h
  · rename_i h1
    split at h
    · rename_i h2
      have e : kTags l = (kUniq l, 0) := by unfold kTags; rw [if_pos h1, if_pos h2]
      rw [e]
      have h3 : (kUniq l).all tagOk = true := List.all_eq_true.2 fun x hx => List.all_eq_true.1 h1 x ((kUniq_mem l x).1 hx)
      have h4 := kUniq_of_sorted _ (kUniq_sorted l)
      show kTags (kUniq l) = (kUniq l, 0)
      unfold kTags
      rw [if_pos h3, h4, if_pos h2]
    · cases h
  · cases h

theorem reads_form {w : World} {v : Value} {l : List Bs} {n : Nat} (h : Reads w v (l.map encStr)) (hn : l.length = n) : ∃ p c, v = .slice p n c := by
  obtain ⟨p, c, rfl, _⟩ := h
  exact ⟨p, c, by rw [List.length_map, hn]⟩

theorem join_yes (s : ByteArray) (v : Value) (hs : s.size ≤ 600) (hv : kValid s.size = true) (w : World) (h : Reads w v ((kSegs s.data.toList).map encStr)) :
    Calls Tryd.prog 26 #[v] w fun e w' => e = .returned (.tuple #[.string s, .int .i64 0]) ∧ Below w.heap.size w w' := by
  have hsz : s.data.toList.length = s.size := by simp
  have h1 := kSegs_sum s.data.toList
  have h2 := kSegs_bd s.data.toList
  have c := keyJoin_any v _ w h (by omega) (by omega)
  have hv2 : 1 ≤ s.size ∧ s.size ≤ 250 := by simpa [kValid] using hv
  rw [kJoin_of_segs s.data.toList (by omega)] at c
  have e : (⟨(s.data.toList).toArray⟩ : ByteArray) = s := mk_eq s
  rw [show ((s.data.toList, (0 : Int)).1) = s.data.toList from rfl, e] at c
  exact c

theorem parse_yes (t : ByteArray) (h : ((kParse t.data.toList).2 == 0) = true) : ∃ x : Bs, kParse t.data.toList = (x, 0) ∧ kText x = (t.data.toList, 0) ∧ x.length ≤ 250 := by
  have e : kParse t.data.toList = ((kParse t.data.toList).1, 0) := by
    have h2 : (kParse t.data.toList).2 = 0 := by simpa using h
    rw [← h2]
  have e2 := kText_kParse _ _ e
  refine ⟨_, e, e2, ?_⟩
  rcases Nat.lt_or_ge 250 (kParse t.data.toList).1.length with h3 | h3
  · rw [kText_long _ h3] at e2
    exact absurd (congrArg Prod.snd e2) (fun h => by have h5 : (5 : Int) = 0 := h; omega)
  · exact h3
theorem parse_ok (t : ByteArray) (x : Bs) (ht : t.size ≤ 1000) (h : kParse t.data.toList = (x, 0)) (w : World) (hD : Digits w) :
    Calls Tryd.prog 36 #[.string t] w fun e w' => e = .returned (.tuple #[.string ⟨x.toArray⟩, .int .i64 0]) ∧ Below w.heap.size w w' := by
  have c := keyParse_any t (by omega) w hD
  rwa [h] at c
theorem parse_not (t : ByteArray) (ht : t.size ≤ 1000) (h : ((kParse t.data.toList).2 == 0) = false) : ∃ (y : ByteArray) (e : Int), (e == 0) = false ∧ Hid (∀ w, Digits w →
    Calls Tryd.prog 36 #[.string t] w fun e' w' => e' = .returned (.tuple #[.string y, .int .i64 e]) ∧ Below w.heap.size w w') :=
  ⟨_, _, h, fun w hD => keyParse_any t (by omega) w hD⟩
theorem text_back (t : ByteArray) (x : Bs) (hx : x.length ≤ 250) (h : kText x = (t.data.toList, 0)) (w : World) (hD : Digits w) :
    Calls Tryd.prog 32 #[.string ⟨x.toArray⟩] w fun e w' => e = .returned (.tuple #[.string t, .int .i64 0]) ∧ Below w.heap.size w w' := by
  have c := keyText_any ⟨x.toArray⟩ (by show x.toArray.size ≤ _; simp; omega) w hD
  rw [show (⟨x.toArray⟩ : ByteArray).data.toList = x from by simp, h] at c
  have e : (⟨(t.data.toList).toArray⟩ : ByteArray) = t := mk_eq t
  rw [show ((t.data.toList, (0 : Int)).1) = t.data.toList from rfl, e] at c
  exact c
theorem tags_ok (v : Value) (l : List Bs) (hl : l.length ≤ 1000) (h : ((kTags l).2 == 0) = true) (w : World) (hr : Reads w v (l.map encStr)) :
    Calls Tryd.prog 29 #[v] w fun e w' => ∃ u, e = .returned (.tuple #[u, .int .i64 0]) ∧ Reads w' u ((kTags l).1.map encStr) ∧ Below w.heap.size w w' := by
  refine (keyTags_any v l w hr (by omega)).mono ?_
  rintro e w' ⟨u, rfl, ho, hb⟩
  have h2 : (kTags l).2 = 0 := by simpa using h
  have h3 := kTags_len l
  rw [h2]
  exact ⟨u, rfl, own_reads ho rfl (by omega), hb⟩
theorem tags_twice (v : Value) (l : List Bs) (hl : l.length ≤ 1000) (h : ((kTags l).2 == 0) = true) (w : World) (hr : Reads w v ((kTags l).1.map encStr)) :
    Calls Tryd.prog 29 #[v] w fun e w' => ∃ u, e = .returned (.tuple #[u, .int .i64 0]) ∧ Reads w' u ((kTags l).1.map encStr) ∧ Below w.heap.size w w' := by
  have h4 := kTags_again l h
  have h3 := kTags_len l
  have c := tags_ok v (kTags l).1 (by omega) (by rw [h4]; rfl) w hr
  rwa [h4] at c
theorem tags_not (v : Value) (l : List Bs) (hl : l.length ≤ 1000) (h : ((kTags l).2 == 0) = false) : ∃ e : Int, (e == 0) = false ∧ Hid (∀ w, Reads w v (l.map encStr) →
    Calls Tryd.prog 29 #[v] w fun e' w' => ∃ u, e' = .returned (.tuple #[u, .int .i64 e]) ∧ Below w.heap.size w w') :=
  ⟨_, h, fun w hr => (keyTags_any v l w hr (by omega)).mono fun _ _ ⟨u, h1, _, h3⟩ => ⟨u, h1, h3⟩⟩

theorem has_q (s : ByteArray) (p : Bs) (h : kHas s.data.toList p = true) (w : World) :
    Calls Tryd.prog 17 #[.string s, .string ⟨p.toArray⟩] w fun e w' => e = .returned (.bool true) ∧ w' = w := by
  have c := keyHas_any s ⟨p.toArray⟩ w
  rw [show (⟨p.toArray⟩ : ByteArray).data.toList = p from by simp, h] at c
  exact c.mono fun _ _ h => ⟨h.1, h.2.symm⟩

set_option maxHeartbeats 4000000 in
set_option maxRecDepth 100000 in
theorem holds_walk (s text : ByteArray) (v : Value) (l : List Bs) (hs : s.size ≤ 140737488355328) (ht : text.size ≤ 140737488355328) (w : World) (hr : Reads w v (l.map encStr)) (hL : LaidK w) :
    Calls Tryd.prog 9 #[.string s, .string text, v] w fun e w' => e = .returned (.bool true) ∧ Below w.heap.size w w' := by
  have hR := hr
  have hS := (St.start hL).push hR
  obtain ⟨p, cap, rfl, hl2, _⟩ := hr
  obtain ⟨_, hC⟩ := cellsOf_reads hR
  rw [List.length_map] at hl2 hR hS ⊢
  have HC := Lib.hid hC
  clear hC
  by_cases h1 : s.size ≤ 300 ∧ text.size ≤ 300 ∧ l.length ≤ 40
  · obtain ⟨h1, h2, h3⟩ := h1
    go_enter Tryd.func9, Tryd.ntmps9
    go_upto_if 42 with (go_at_call 11; refine (keyValid_any _ _).mono ?_; rintro e w' ⟨rfl, rfl⟩)
    go_cut [] (fun wx => St w wx [(.slice p l.length cap, l)])
    case first =>
      go_wp2_with fail
      · have hv : kValid s.size = true := by assumption
        obtain ⟨N, hN⟩ : ∃ N, (kFolders s.data.toList).length = N := ⟨_, rfl⟩
        have hN2 : (kSegs s.data.toList).length = N + 1 := by rw [← hN]; exact (kFolders_len _).symm
        have hNb : N ≤ 300 := by
          have := kFold_length s.data.toList s.data.toList.length
          have hsz : s.data.toList.length = s.size := by simp
          unfold kFolders at hN
          omega
        have HN := Lib.hid hN
        have HN2 := Lib.hid hN2
        clear hN hN2
        refine (seg_yes s (by omega) hv _ hS.laid.laid).mono ?_
        rintro e w1 ⟨va, rfl, r1, b1⟩
        have s1 := (hS.step b1).push r1
        obtain ⟨pa, ca, rfl⟩ := reads_form r1 HN2.out
        clear r1 b1
        go_wp2_with fail
        refine (join_yes s _ (by omega) hv _ (s1.reads _ (.head _))).mono ?_
        rintro e w2 ⟨rfl, b1⟩
        have s2 := s1.step b1
        clear b1 s1
        go_wp2_with fail
        refine (fold_yes s (by omega) hv _).mono ?_
        rintro e w3 ⟨vb, rfl, r1, b1⟩
        have s3 := s2.step b1
        obtain ⟨pb, cb, rfl⟩ := reads_form r1 HN.out
        have HCF := Lib.hid (cellsOf_reads r1).2
        clear b1 s2 r1
        go_wp2_with fail
        go_loopw [83] (fun i wr => ∃ k : Nat, k ≤ N ∧ i = .int .i64 k ∧ Below w3.heap.size w3 wr) (fun i _ => N - (intOf i).toNat)
        case atStart => exact ⟨0, by omega, rfl, Below.refl _ _⟩
        case round =>
          obtain ⟨k, hk, rfl, hbl⟩ := hrel
          by_cases hlt : k < N
          · obtain ⟨x, hx⟩ : ∃ x, (kFolders s.data.toList)[k]? = some x := ⟨_, List.getElem?_eq_getElem (by have := HN.out; omega)⟩
            obtain ⟨blk, off, rfl, HBLK, hcell0⟩ := HCF.out k x hx
            have hcell : wr.cell? ⟨blk, off + k, none⟩ = some (.string ⟨x.toArray⟩) := by
              rw [hbl.cell (p := ⟨blk, off + k, none⟩) HBLK]; exact hcell0
            obtain ⟨f1, f2, f3, f4, f5⟩ := kFolders_at _ _ _ hx
            have hsz : s.data.toList.length = s.size := by simp
            have f2' : x.length ≤ 300 := by omega
            have hbd : x.length - 1 < (⟨x.toArray⟩ : ByteArray).size := by show _ < x.toArray.size; simp; omega
            have hlast : (((((⟨x.toArray⟩ : ByteArray)[x.length - 1]'hbd).toNat : Nat) : Int) != 47) = false := by
              have e : (⟨x.toArray⟩ : ByteArray)[x.length - 1]'hbd = 47 := by
                have h' : x[x.length - 1]? = some ((⟨x.toArray⟩ : ByteArray)[x.length - 1]'hbd) := by
                  rw [List.getElem?_eq_getElem (by omega)]; rfl
                exact Option.some.inj (h'.symm.trans f3)
              rw [e]; rfl
            have F4 := Lib.hid f4
            rcases Nat.eq_zero_or_pos k with h0 | h0
            · subst h0
              have hcell' : wr.cell? ⟨blk, off, none⟩ = some (.string ⟨x.toArray⟩) := by simpa using hcell
              clear f2 f3 f4 f5 hx hcell0 hsz hcell
              go_wp2_with ((go_at_call 17; (with_reducible refine (has_q s x F4.out _).mono ?_); rintro e w' ⟨rfl, hw⟩; subst hw))
              go_roundw
              case rel => exact ⟨1, by omega, rfl, hbl⟩
              case measure => simp [intOf]; omega
            · obtain ⟨y, hy⟩ : ∃ y, (kFolders s.data.toList)[k - 1]? = some y := ⟨_, List.getElem?_eq_getElem (by have := HN.out; omega)⟩
              have F5 := Lib.hid (f5 y h0 hy)
              obtain ⟨blk2, off2, e2, _, hcell1⟩ := HCF.out (k - 1) y hy
              injection e2 with e2
              injection e2 with e2 e3
              subst e2 e3
              have hcell2 : wr.cell? ⟨blk, off + (k - 1), none⟩ = some (.string ⟨y.toArray⟩) := by
                rw [hbl.cell (p := ⟨blk, off + (k - 1), none⟩) HBLK]; exact hcell1
              clear f2 f3 f4 f5 hx hy hcell0 hcell1 hsz
              go_wp2_with (first | (go_at_call 17; (with_reducible refine (has_q s x F4.out _).mono ?_); rintro e w' ⟨rfl, hw⟩; subst hw) | (go_at_call 17; (with_reducible refine (has_q ⟨x.toArray⟩ y F5.out _).mono ?_); rintro e w' ⟨rfl, hw⟩; subst hw))
              go_roundw
              case rel => exact ⟨k + 1, by omega, by go_num, hbl⟩
              case measure => simp [intOf]; omega
          · obtain rfl : k = N := by omega
            go_wp2_with fail
            go_meet
            have s4 := s3.step hbl
            exact ⟨s4.laid, s4.bel, fun q hq => s4.reads q (.tail _ hq)⟩
      · go_meet
        exact hS
    case rest =>
      clear hS
      rcases Nat.lt_or_ge 250 s.size with hsz | hsz
      case inl =>
        have htx : ∀ w, Digits w → Calls Tryd.prog 32 #[.string s] w fun e w' => e = .returned (.tuple #[.string ⟨#[]⟩, .int .i64 5]) ∧ Below w.heap.size w w' := fun w hD => by
          have h := keyText_any s (by omega) w hD
          rwa [kText_long _ (by simpa using hsz)] at h
        have HT := Lib.hid htx
        clear htx
        go_wp2_with fail
        refine (HT.out _ hcut.laid.digs).mono ?_
        rintro e w1 ⟨rfl, b1⟩
        have s2 := hcut.step b1
        clear b1 hcut HT
        go_wp2_with fail
        rcases Bool.eq_false_or_eq_true ((kParse text.data.toList).2 == 0) with hpz | hpz
        · obtain ⟨x, hx1, hx2, hx3⟩ := parse_yes text hpz
          have HX1 := Lib.hid hx1
          have HX2 := Lib.hid hx2
          clear hx1 hx2 hpz
          refine (parse_ok text x (by omega) HX1.out _ s2.laid.digs).mono ?_
          rintro e w3 ⟨rfl, b1⟩
          have s3 := s2.step b1
          clear b1 s2
          go_wp2_with fail
          refine (text_back text x hx3 HX2.out _ s3.laid.digs).mono ?_
          rintro e w4 ⟨rfl, b1⟩
          have s5 := s3.step b1
          have HCW := Lib.hid (cellsOf_reads (s5.reads _ (.head _))).2
          clear b1 s3 HX1 HX2 hx3
          go_wp2_with fail
          go_loop [149] (fun i => ∃ k : Nat, k ≤ l.length ∧ i = .int .i64 k) (fun i => l.length - (intOf i).toNat)
          case atStart => exact ⟨0, by omega, rfl⟩
          case round =>
            obtain ⟨k, hk, rfl⟩ := hrel
            by_cases hlt : k < l.length
            · obtain ⟨x, hx⟩ : ∃ x, l[k]? = some x := ⟨l[k], List.getElem?_eq_getElem hlt⟩
              obtain ⟨blk, off, rfl, HBLK, hcell⟩ := HCW.out k x hx
              clear hx
              by_cases hs : x.length ≤ 100
              · go_wp2
                go_round
                case rel => exact ⟨k + 1, by omega, by go_num⟩
                case measure => simp [intOf]; omega
              · have hs2 : 100 < x.length := by omega
                clear hs
                go_wp2_with fail
                refine (known_any _ s5.laid).mono ?_
                rintro e w9 ⟨rfl, b1⟩
                go_wp2_with fail
                go_ret
                exact ⟨rfl, (s5.step b1).bel⟩
            · obtain rfl : k = l.length := by omega
              clear hlt hk
              rcases Bool.eq_false_or_eq_true ((kTags l).2 == 0) with htz | htz
              · have HTZ := Lib.hid htz
                clear htz
                go_wp2_with fail
                refine (tags_ok _ l (by omega) HTZ.out _ (s5.reads _ (.head _))).mono ?_
                rintro e w6 ⟨u, rfl, r1, b1⟩
                have s6 := (s5.step b1).push r1
                clear r1 b1 s5 HCW
                go_wp2_with fail
                refine (tags_twice u l (by omega) HTZ.out _ (s6.reads _ (.head _))).mono ?_
                rintro e w7 ⟨u2, rfl, r1, b1⟩
                have s7 := (s6.step b1).push r1
                clear r1 b1 s6
                go_wp2_with fail
                refine (kn_list _ u2 u _ 0 (s7.reads _ (.head _)) (s7.reads _ (.tail _ (.head _)))).mono ?_
                rintro e w8 ⟨rfl, b1⟩
                have s8 := s7.step b1
                clear b1 s7
                go_wp2_with fail
                refine (known_any _ s8.laid).mono ?_
                rintro e w9 ⟨rfl, b1⟩
                go_wp2_with fail
                go_ret
                exact ⟨rfl, (s8.step b1).bel⟩
              · obtain ⟨ez, hez, HTN⟩ := tags_not (.slice p l.length cap) l (by omega) htz
                clear htz
                go_wp2_with fail
                refine (HTN.out _ (s5.reads _ (.head _))).mono ?_
                rintro e w6 ⟨u, rfl, b1⟩
                have s6 := s5.step b1
                clear b1 s5 HCW HTN
                go_wp2_with fail
                refine (known_any _ s6.laid).mono ?_
                rintro e w9 ⟨rfl, b1⟩
                go_wp2_with fail
                go_ret
                exact ⟨rfl, (s6.step b1).bel⟩
        · obtain ⟨y, ey, hey, HPN⟩ := parse_not text (by omega) hpz
          clear hpz
          refine (HPN.out _ s2.laid.digs).mono ?_
          rintro e w3 ⟨rfl, b1⟩
          have s5 := s2.step b1
          have HCW := Lib.hid (cellsOf_reads (s5.reads _ (.head _))).2
          clear b1 s2 HPN
          go_wp2_with fail
          go_loop [149] (fun i => ∃ k : Nat, k ≤ l.length ∧ i = .int .i64 k) (fun i => l.length - (intOf i).toNat)
          case atStart => exact ⟨0, by omega, rfl⟩
          case round =>
            obtain ⟨k, hk, rfl⟩ := hrel
            by_cases hlt : k < l.length
            · obtain ⟨x, hx⟩ : ∃ x, l[k]? = some x := ⟨l[k], List.getElem?_eq_getElem hlt⟩
              obtain ⟨blk, off, rfl, HBLK, hcell⟩ := HCW.out k x hx
              clear hx
              by_cases hs : x.length ≤ 100
              · go_wp2
                go_round
                case rel => exact ⟨k + 1, by omega, by go_num⟩
                case measure => simp [intOf]; omega
              · have hs2 : 100 < x.length := by omega
                clear hs
                go_wp2_with fail
                refine (known_any _ s5.laid).mono ?_
                rintro e w9 ⟨rfl, b1⟩
                go_wp2_with fail
                go_ret
                exact ⟨rfl, (s5.step b1).bel⟩
            · obtain rfl : k = l.length := by omega
              clear hlt hk
              rcases Bool.eq_false_or_eq_true ((kTags l).2 == 0) with htz | htz
              · have HTZ := Lib.hid htz
                clear htz
                go_wp2_with fail
                refine (tags_ok _ l (by omega) HTZ.out _ (s5.reads _ (.head _))).mono ?_
                rintro e w6 ⟨u, rfl, r1, b1⟩
                have s6 := (s5.step b1).push r1
                clear r1 b1 s5 HCW
                go_wp2_with fail
                refine (tags_twice u l (by omega) HTZ.out _ (s6.reads _ (.head _))).mono ?_
                rintro e w7 ⟨u2, rfl, r1, b1⟩
                have s7 := (s6.step b1).push r1
                clear r1 b1 s6
                go_wp2_with fail
                refine (kn_list _ u2 u _ 0 (s7.reads _ (.head _)) (s7.reads _ (.tail _ (.head _)))).mono ?_
                rintro e w8 ⟨rfl, b1⟩
                have s8 := s7.step b1
                clear b1 s7
                go_wp2_with fail
                refine (known_any _ s8.laid).mono ?_
                rintro e w9 ⟨rfl, b1⟩
                go_wp2_with fail
                go_ret
                exact ⟨rfl, (s8.step b1).bel⟩
              · obtain ⟨ez, hez, HTN⟩ := tags_not (.slice p l.length cap) l (by omega) htz
                clear htz
                go_wp2_with fail
                refine (HTN.out _ (s5.reads _ (.head _))).mono ?_
                rintro e w6 ⟨u, rfl, b1⟩
                have s6 := s5.step b1
                clear b1 s5 HCW HTN
                go_wp2_with fail
                refine (known_any _ s6.laid).mono ?_
                rintro e w9 ⟨rfl, b1⟩
                go_wp2_with fail
                go_ret
                exact ⟨rfl, (s6.step b1).bel⟩
      case inr =>
        have htx : ∀ w, Digits w → Calls Tryd.prog 32 #[.string s] w fun e w' => e = .returned (.tuple #[.string ⟨(rText s.data.toList).toArray⟩, .int .i64 0]) ∧ Below w.heap.size w w' := fun w hD => by
          have h := keyText_any s (by omega) w hD
          rwa [kText_short _ (by simpa using hsz)] at h
        have HT := Lib.hid htx
        have hps : kParse (rText s.data.toList) = (s.data.toList, 0) := kParse_kText _ (by simpa using hsz)
        have hrl : (rText s.data.toList).length ≤ 1000 := by
          unfold rText
          split
          · decide
          · have := tBody_length s.data.toList
            have hz : s.data.toList.length = s.size := by simp
            omega
        have HP := Lib.hid hps
        have HRL := Lib.hid hrl
        clear htx hps hrl
        go_wp2_with fail
        refine (HT.out _ hcut.laid.digs).mono ?_
        rintro e w1 ⟨rfl, b1⟩
        have s1 := hcut.step b1
        clear b1 hcut HT
        go_wp2_with fail
        refine (parses_is ⟨(rText s.data.toList).toArray⟩ s s.data.toList 0 (by show (rText s.data.toList).toArray.size ≤ _; have := HRL.out; simp; omega) (mk_eq s).symm _ s1.laid.digs (by simpa using HP.out)).mono ?_
        rintro e w2 ⟨rfl, b1⟩
        have s2 := s1.step b1
        clear b1 s1
        go_wp2_with fail
        rcases Bool.eq_false_or_eq_true ((kParse text.data.toList).2 == 0) with hpz | hpz
        · obtain ⟨x, hx1, hx2, hx3⟩ := parse_yes text hpz
          have HX1 := Lib.hid hx1
          have HX2 := Lib.hid hx2
          clear hx1 hx2 hpz
          refine (parse_ok text x (by omega) HX1.out _ s2.laid.digs).mono ?_
          rintro e w3 ⟨rfl, b1⟩
          have s3 := s2.step b1
          clear b1 s2
          go_wp2_with fail
          refine (text_back text x hx3 HX2.out _ s3.laid.digs).mono ?_
          rintro e w4 ⟨rfl, b1⟩
          have s5 := s3.step b1
          have HCW := Lib.hid (cellsOf_reads (s5.reads _ (.head _))).2
          clear b1 s3 HX1 HX2 hx3
          go_wp2_with fail
          go_loop [149] (fun i => ∃ k : Nat, k ≤ l.length ∧ i = .int .i64 k) (fun i => l.length - (intOf i).toNat)
          case atStart => exact ⟨0, by omega, rfl⟩
          case round =>
            obtain ⟨k, hk, rfl⟩ := hrel
            by_cases hlt : k < l.length
            · obtain ⟨x, hx⟩ : ∃ x, l[k]? = some x := ⟨l[k], List.getElem?_eq_getElem hlt⟩
              obtain ⟨blk, off, rfl, HBLK, hcell⟩ := HCW.out k x hx
              clear hx
              by_cases hs : x.length ≤ 100
              · go_wp2
                go_round
                case rel => exact ⟨k + 1, by omega, by go_num⟩
                case measure => simp [intOf]; omega
              · have hs2 : 100 < x.length := by omega
                clear hs
                go_wp2_with fail
                refine (known_any _ s5.laid).mono ?_
                rintro e w9 ⟨rfl, b1⟩
                go_wp2_with fail
                go_ret
                exact ⟨rfl, (s5.step b1).bel⟩
            · obtain rfl : k = l.length := by omega
              clear hlt hk
              rcases Bool.eq_false_or_eq_true ((kTags l).2 == 0) with htz | htz
              · have HTZ := Lib.hid htz
                clear htz
                go_wp2_with fail
                refine (tags_ok _ l (by omega) HTZ.out _ (s5.reads _ (.head _))).mono ?_
                rintro e w6 ⟨u, rfl, r1, b1⟩
                have s6 := (s5.step b1).push r1
                clear r1 b1 s5 HCW
                go_wp2_with fail
                refine (tags_twice u l (by omega) HTZ.out _ (s6.reads _ (.head _))).mono ?_
                rintro e w7 ⟨u2, rfl, r1, b1⟩
                have s7 := (s6.step b1).push r1
                clear r1 b1 s6
                go_wp2_with fail
                refine (kn_list _ u2 u _ 0 (s7.reads _ (.head _)) (s7.reads _ (.tail _ (.head _)))).mono ?_
                rintro e w8 ⟨rfl, b1⟩
                have s8 := s7.step b1
                clear b1 s7
                go_wp2_with fail
                refine (known_any _ s8.laid).mono ?_
                rintro e w9 ⟨rfl, b1⟩
                go_wp2_with fail
                go_ret
                exact ⟨rfl, (s8.step b1).bel⟩
              · obtain ⟨ez, hez, HTN⟩ := tags_not (.slice p l.length cap) l (by omega) htz
                clear htz
                go_wp2_with fail
                refine (HTN.out _ (s5.reads _ (.head _))).mono ?_
                rintro e w6 ⟨u, rfl, b1⟩
                have s6 := s5.step b1
                clear b1 s5 HCW HTN
                go_wp2_with fail
                refine (known_any _ s6.laid).mono ?_
                rintro e w9 ⟨rfl, b1⟩
                go_wp2_with fail
                go_ret
                exact ⟨rfl, (s6.step b1).bel⟩
        · obtain ⟨y, ey, hey, HPN⟩ := parse_not text (by omega) hpz
          clear hpz
          refine (HPN.out _ s2.laid.digs).mono ?_
          rintro e w3 ⟨rfl, b1⟩
          have s5 := s2.step b1
          have HCW := Lib.hid (cellsOf_reads (s5.reads _ (.head _))).2
          clear b1 s2 HPN
          go_wp2_with fail
          go_loop [149] (fun i => ∃ k : Nat, k ≤ l.length ∧ i = .int .i64 k) (fun i => l.length - (intOf i).toNat)
          case atStart => exact ⟨0, by omega, rfl⟩
          case round =>
            obtain ⟨k, hk, rfl⟩ := hrel
            by_cases hlt : k < l.length
            · obtain ⟨x, hx⟩ : ∃ x, l[k]? = some x := ⟨l[k], List.getElem?_eq_getElem hlt⟩
              obtain ⟨blk, off, rfl, HBLK, hcell⟩ := HCW.out k x hx
              clear hx
              by_cases hs : x.length ≤ 100
              · go_wp2
                go_round
                case rel => exact ⟨k + 1, by omega, by go_num⟩
                case measure => simp [intOf]; omega
              · have hs2 : 100 < x.length := by omega
                clear hs
                go_wp2_with fail
                refine (known_any _ s5.laid).mono ?_
                rintro e w9 ⟨rfl, b1⟩
                go_wp2_with fail
                go_ret
                exact ⟨rfl, (s5.step b1).bel⟩
            · obtain rfl : k = l.length := by omega
              clear hlt hk
              rcases Bool.eq_false_or_eq_true ((kTags l).2 == 0) with htz | htz
              · have HTZ := Lib.hid htz
                clear htz
                go_wp2_with fail
                refine (tags_ok _ l (by omega) HTZ.out _ (s5.reads _ (.head _))).mono ?_
                rintro e w6 ⟨u, rfl, r1, b1⟩
                have s6 := (s5.step b1).push r1
                clear r1 b1 s5 HCW
                go_wp2_with fail
                refine (tags_twice u l (by omega) HTZ.out _ (s6.reads _ (.head _))).mono ?_
                rintro e w7 ⟨u2, rfl, r1, b1⟩
                have s7 := (s6.step b1).push r1
                clear r1 b1 s6
                go_wp2_with fail
                refine (kn_list _ u2 u _ 0 (s7.reads _ (.head _)) (s7.reads _ (.tail _ (.head _)))).mono ?_
                rintro e w8 ⟨rfl, b1⟩
                have s8 := s7.step b1
                clear b1 s7
                go_wp2_with fail
                refine (known_any _ s8.laid).mono ?_
                rintro e w9 ⟨rfl, b1⟩
                go_wp2_with fail
                go_ret
                exact ⟨rfl, (s8.step b1).bel⟩
              · obtain ⟨ez, hez, HTN⟩ := tags_not (.slice p l.length cap) l (by omega) htz
                clear htz
                go_wp2_with fail
                refine (HTN.out _ (s5.reads _ (.head _))).mono ?_
                rintro e w6 ⟨u, rfl, b1⟩
                have s6 := s5.step b1
                clear b1 s5 HCW HTN
                go_wp2_with fail
                refine (known_any _ s6.laid).mono ?_
                rintro e w9 ⟨rfl, b1⟩
                go_wp2_with fail
                go_ret
                exact ⟨rfl, (s6.step b1).bel⟩
  · have h2 : 300 < s.size ∨ (s.size ≤ 300 ∧ 300 < text.size) ∨ (s.size ≤ 300 ∧ text.size ≤ 300 ∧ 40 < l.length) := by omega
    rcases h2 with h2 | ⟨h2, h3⟩ | ⟨h2, h3, h4⟩
    all_goals
      clear h1
      go_enter Tryd.func9, Tryd.ntmps9
      go_wp2_with (go_at_call 10; refine (known_any _ hL).mono ?_; rintro e w' ⟨rfl, hb1⟩)
      go_ret
      exact ⟨rfl, hb1⟩
end Go.Proofs.YtbcfbdkacnnkgaaDoor
