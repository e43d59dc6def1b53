/- The law's own stamps; known. -/
import Derived.Test.YtckdfnlleaifcaaStmK
namespace Go.Proofs.Ytckdfnlleaifcaa
set_option linter.unusedVariables false
open Go.RowKit Go.Maps Go.Sort

/-- Stamps of the law's own, in whose blocks nothing lies that was there in V. -/
def Ks (V w : World) (g gr now last n : Nat) (d : List Tg) : Prop := ∃ O, St w g gr now last n d O ∧ (∀ x, O x → V.heap.size ≤ x) ∧ Below V.heap.size V w
section
variable {V w w' : World} {g gr now last n : Nat} {d : List Tg}
theorem Ks.bel (h : Ks V w g gr now last n d) : Below V.heap.size V w := h.elim fun _ h => h.2.2
theorem Ks.quiet (h : Ks V w g gr now last n d) (hb : Below w.heap.size w w') : Ks V w' g gr now last n d := by
  obtain ⟨O, h1, h2, h3⟩ := h
  exact ⟨O, h1.below hb, h2, h3.trans (hb.mono h3.size)⟩
theorem Ks.of_only {O : Nat → Prop} {now' last' n' : Nat} {d' : List Tg} (h3 : Below V.heap.size V w) (h2 : ∀ x, O x → V.heap.size ≤ x) (h1 : St w' g gr now' last' n' d' O) (ho : Only O w w') : Ks V w' g gr now' last' n' d' :=
  ⟨O, h1, h2, h3.trans (ho.below h2 h3.size)⟩
theorem Ks.of_goes {O O' : Nat → Prop} {now' last' n' : Nat} {d' : List Tg} (h3 : Below V.heap.size V w) (h2 : ∀ x, O x → V.heap.size ≤ x) (h1 : St w' g gr now' last' n' d' O') (ho : Goes w O w' O') : Ks V w' g gr now' last' n' d' :=
  ⟨O', h1, fun x hx => by rcases ho.new x hx with h | h; exact h2 x h; have := h3.size; omega, h3.trans (ho.only.below h2 h3.size)⟩
theorem Ks.start (hV : Below V.heap.size V w) (a : Nat) (h : a ≤ 1099511627776) :
    Calls Try.prog 12 #[.int .u64 (a : Int)] w fun e w' => ∃ g, e = .returned (.tuple #[.pointer (some ⟨g, 0, none⟩), .int .i64 0]) ∧ Ks V w' g a 0 0 0 [] := by
  refine (new_ok a h w).mono ?_
  rintro e w' ⟨g, O, h1, h2, h3, h4⟩
  have := hV.size
  exact ⟨g, h1, O, h2, fun x hx => by have := h3 x hx; omega, hV.trans (h4.mono hV.size)⟩
theorem Ks.hard (h : Ks V w g gr now last n d) (t a : Nat) (ht : t < 65536) (hl : last < 18446744073709551615) (ha : a ≤ 18446744073709551615) (hn : n ≤ 100000) :
    Calls Try.prog 25 #[.pointer (some ⟨g, 0, none⟩), .int .i64 (t : Int), .int .u64 (a : Int)] w fun e w' => e = .returned (.tuple #[.int .u64 ((last + 1 : Nat) : Int), .int .i64 0]) ∧ Ks V w' g gr (max now a) (last + 1) (n + 1) (hardD gr (max now a) (last + 1) t d) := by
  obtain ⟨O, h1, h2, h3⟩ := h
  refine (hard_ok h1 t ht hl a ha hn).mono ?_
  rintro e w' ⟨h4, O', h5, h6⟩
  exact ⟨h4, Ks.of_goes h3 h2 h5 h6⟩
theorem Ks.soft (h : Ks V w g gr now last n d) (t a : Nat) (ht : t < 65536) (hl : last < 18446744073709551615) (ha : a ≤ 18446744073709551615) (hn : n ≤ 100000) :
    Calls Try.prog 26 #[.pointer (some ⟨g, 0, none⟩), .int .i64 (t : Int), .int .u64 (a : Int)] w fun e w' => e = .returned (.tuple #[.int .u64 ((last + 1 : Nat) : Int), .int .i64 0]) ∧ Ks V w' g gr (max now a) (last + 1) (n + 1) (softD gr (max now a) (last + 1) t d) := by
  obtain ⟨O, h1, h2, h3⟩ := h
  refine (soft_ok h1 t ht hl a ha hn).mono ?_
  rintro e w' ⟨h4, O', h5, h6⟩
  exact ⟨h4, Ks.of_goes h3 h2 h5 h6⟩
theorem Ks.other (h : Ks V w g gr now last n d) (a : Nat) (hl : last < 18446744073709551615) (ha : a ≤ 18446744073709551615) :
    Calls Try.prog 15 #[.pointer (some ⟨g, 0, none⟩), .int .u64 (a : Int)] w fun e w' => e = .returned (.tuple #[.int .u64 ((last + 1 : Nat) : Int), .int .i64 0]) ∧ Ks V w' g gr (max now a) (last + 1) n (advD gr (max now a) d) := by
  obtain ⟨O, h1, h2, h3⟩ := h
  refine (other_ok h1 hl a ha).mono ?_
  rintro e w' ⟨h4, h5, h6⟩
  exact ⟨h4, Ks.of_only h3 h2 h5 h6⟩
theorem Ks.adv (h : Ks V w g gr now last n d) (a : Nat) (ha : a ≤ 18446744073709551615) :
    Calls Try.prog 16 #[.pointer (some ⟨g, 0, none⟩), .int .u64 (a : Int)] w fun e w' => e = .returned (.int .i64 0) ∧ Ks V w' g gr (max now a) last n (advD gr (max now a) d) := by
  obtain ⟨O, h1, h2, h3⟩ := h
  refine (advance_any h1 a ha).mono ?_
  rintro e w' ⟨h4, h5, h6⟩
  exact ⟨h4, Ks.of_only h3 h2 h5 h6⟩
def fgE (t : Nat) (d : List Tg) : Int := if (getT t d).isSome then 0 else 9
theorem Ks.forget (h : Ks V w g gr now last n d) (t : Nat) (ht : t < 65536) :
    Calls Try.prog 17 #[.pointer (some ⟨g, 0, none⟩), .int .i64 (t : Int)] w fun e w' => e = .returned (.int .i64 (fgE t d)) ∧ Ks V w' g gr now last n (delT t d) := by
  unfold fgE
  cases hx : getT t d with
  | none =>
    have hk := h
    obtain ⟨O, h1, h2, h3⟩ := h
    refine (forget_none h1 t ht hx).mono ?_
    rintro e w' ⟨h4, rfl⟩
    have e1 : delT t d = d := by
      unfold delT
      rw [List.filter_eq_self]
      intro x hx2
      have := getT_none hx x hx2
      simpa using this
    exact ⟨h4, by rw [e1]; exact hk⟩
  | some x =>
    obtain ⟨O, h1, h2, h3⟩ := h
    refine (forget_some h1 t ht hx).mono ?_
    rintro e w' ⟨h4, h5, h6⟩
    exact ⟨h4, Ks.of_only h3 h2 h5 h6⟩
theorem Ks.firstL (h : Ks V w g gr now last n d) (t since : Nat) (ht : t < 65536) (hn : n ≤ 100000) (r : Nat × Bool) (hr : firstM since (knownP t d).soft = r) :
    Calls Try.prog 27 #[.pointer (some ⟨g, 0, none⟩), .int .i64 (t : Int), .int .u64 (since : Int), .int .u64 (r.1 : Int), .bool r.2, .int .i64 0] w fun e w' => e = .returned (.bool true) ∧ Ks V w' g gr now last n d := by
  obtain ⟨O, h1, h2, h3⟩ := h
  refine (first_law h1 t ht hn since r hr).mono ?_
  rintro e w' ⟨h4, h5, h6⟩
  exact ⟨h4, Ks.of_only h3 h2 h5 h6⟩
/-- of, of a value that was made after the stamps were looked at last. -/
theorem Ks.ofL (h : Ks V w g gr now last n d) {W : World} (hW : Below w.heap.size w W) (t : Nat) (ht : t < 65536) (hn : n ≤ 100000) (p : Pg) (hp : knownP t d = p) (v : Value) (hv : SoftAt W v p.soft) (hvn : ∀ z, v.ownBlock = some z → w.heap.size ≤ z) :
    Calls Try.prog 19 #[.pointer (some ⟨g, 0, none⟩), .int .i64 (t : Int), .agg #[.int .i64 (t : Int), .int .u64 (p.hard : Int), v], .int .i64 0] W fun e w' => e = .returned (.bool true) ∧ Ks V w' g gr now last n d := by
  obtain ⟨O, h1, h2, h3⟩ := h
  refine (of_law (h1.below hW) t ht hn p hp v hv (fun z hz ho => by have := hvn z hz; have := h1.lt ho; omega)).mono ?_
  rintro e w' ⟨h4, h5, h6⟩
  exact ⟨h4, Ks.of_only (h3.trans (hW.mono h3.size)) h2 h5 h6⟩
theorem Ks.hardBad (h : Ks V w g gr now last n d) (t : Int) (ht : tagB t = false) (a : Nat) :
    Calls Try.prog 25 #[.pointer (some ⟨g, 0, none⟩), .int .i64 t, .int .u64 (a : Int)] w fun e w' => e = .returned (.tuple #[.int .u64 0, .int .i64 2]) ∧ w = w' := by
  obtain ⟨O, h1, h2, h3⟩ := h
  exact hard_bad h1 t ht a
theorem Ks.nowL (h : Ks V w g gr now last n d) : Calls Try.prog 23 #[.pointer (some ⟨g, 0, none⟩)] w fun e w' => e = .returned (.int .u64 (now : Int)) ∧ w = w' := by
  obtain ⟨O, h1, h2, h3⟩ := h
  exact now_any h1
theorem Ks.lastL (h : Ks V w g gr now last n d) : Calls Try.prog 20 #[.pointer (some ⟨g, 0, none⟩)] w fun e w' => e = .returned (.int .u64 (last : Int)) ∧ w = w' := by
  obtain ⟨O, h1, h2, h3⟩ := h
  exact last_any h1
theorem Ks.list (h : Ks V w g gr now last n d) (hn : n ≤ 100000) :
    Calls Try.prog 21 #[.pointer (some ⟨g, 0, none⟩)] w fun e w' => ∃ v E, e = .returned v ∧ unE E = d ∧ ListAt w' v E ∧ Ks V w' g gr now last n d := by
  obtain ⟨O, h1, h2, h3⟩ := h
  obtain ⟨_, _, hl1, hl2⟩ := h1.lok
  refine (list_any h1 hn).mono ?_
  rintro e w' ⟨v, B, E, h4, h5, h6, h7, h8, h9, h10, h11⟩
  refine ⟨v, E, h4, h5, ⟨RowAt.of_own h6, fun x hx => RowAt.of_own (h7 x hx), ?_, fun x hx => ?_⟩, Ks.of_only h3 h2 h10 h11⟩
  · have := congrArg List.length h5
    unfold unE at this
    rw [List.length_map] at this
    omega
  · exact Nat.le_trans (hl2 x.x (by rw [← h5]; exact List.mem_map.2 ⟨x, hx, rfl⟩)) hn
end
def kd1 : List Tg := [⟨3, ⟨0, [⟨1, 5⟩]⟩⟩]
def kd2 : List Tg := [⟨3, ⟨0, [⟨1, 5⟩, ⟨2, 7⟩]⟩⟩]
def kd3 : List Tg := [⟨3, ⟨0, [⟨1, 5⟩, ⟨2, 7⟩]⟩⟩, ⟨4, ⟨3, []⟩⟩]
def kd4 : List Tg := [⟨3, ⟨0, [⟨1, 5⟩, ⟨4, 7⟩]⟩⟩, ⟨4, ⟨3, []⟩⟩]
def kd5 : List Tg := [⟨3, ⟨1, [⟨4, 7⟩]⟩⟩, ⟨4, ⟨3, []⟩⟩]
def kd6 : List Tg := [⟨3, ⟨6, []⟩⟩, ⟨4, ⟨3, []⟩⟩]
def kd7 : List Tg := [⟨3, ⟨6, []⟩⟩]
section
variable {V w : World} {g : Nat}
theorem kn_1 (h : Ks V w g 10 0 0 0 []) : Calls Try.prog 26 #[.pointer (some ⟨g, 0, none⟩), .int .i64 3, .int .u64 5] w fun e w' => e = .returned (.tuple #[.int .u64 1, .int .i64 0]) ∧ Ks V w' g 10 5 1 1 kd1 :=
  h.soft 3 5 (by decide) (by decide) (by decide) (by decide)
theorem kn_2 (h : Ks V w g 10 5 1 1 kd1) : Calls Try.prog 26 #[.pointer (some ⟨g, 0, none⟩), .int .i64 3, .int .u64 7] w fun e w' => e = .returned (.tuple #[.int .u64 2, .int .i64 0]) ∧ Ks V w' g 10 7 2 2 kd2 :=
  h.soft 3 7 (by decide) (by decide) (by decide) (by decide)
theorem kn_3 (h : Ks V w g 10 7 2 2 kd2) : Calls Try.prog 25 #[.pointer (some ⟨g, 0, none⟩), .int .i64 4, .int .u64 7] w fun e w' => e = .returned (.tuple #[.int .u64 3, .int .i64 0]) ∧ Ks V w' g 10 7 3 3 kd3 :=
  h.hard 4 7 (by decide) (by decide) (by decide) (by decide)
theorem kn_4 (h : Ks V w g 10 7 3 3 kd3) : Calls Try.prog 26 #[.pointer (some ⟨g, 0, none⟩), .int .i64 3, .int .u64 7] w fun e w' => e = .returned (.tuple #[.int .u64 4, .int .i64 0]) ∧ Ks V w' g 10 7 4 4 kd4 :=
  h.soft 3 7 (by decide) (by decide) (by decide) (by decide)
end
end Go.Proofs.Ytckdfnlleaifcaa
