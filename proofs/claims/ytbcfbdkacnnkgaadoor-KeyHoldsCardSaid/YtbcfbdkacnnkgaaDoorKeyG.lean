/- The closed calls of the chapter's examples (known) of key. -/
import Derived.Test.YtbcfbdkacnnkgaaDoorKeyF
import Derived.Deep.OwnRows
namespace Go.Proofs.YtbcfbdkacnnkgaaDoor
set_option linter.unusedVariables false
open Go.RowKit

structure LaidK (w : World) : Prop where
  laid : Laid w
  digs : Digits w
theorem LaidK.below {w w' : World} (h : LaidK w) (hb : Below w.heap.size w w') : LaidK w' := ⟨h.laid.below hb, h.digs.below hb⟩

/-- Where the walk of known stands: what is laid, what was there before, and the lists that it holds. -/
structure St (w0 w : World) (R : List (Value × List Bs)) : Prop where
  laid : LaidK w
  bel : Below w0.heap.size w0 w
  reads : ∀ p ∈ R, Reads w p.1 (p.2.map encStr)
theorem St.start {w : World} (h : LaidK w) : St w w [] := ⟨h, Below.refl _ _, fun _ h => by cases h⟩
theorem St.step {w0 w w' : World} {R : List (Value × List Bs)} (h : St w0 w R) (hb : Below w.heap.size w w') : St w0 w' R :=
  ⟨h.laid.below hb, h.bel.trans (hb.mono h.bel.size), fun p hp => (h.reads p hp).below hb⟩
theorem St.push {w0 w : World} {R : List (Value × List Bs)} (h : St w0 w R) {v : Value} {l : List Bs} (hr : Reads w v (l.map encStr)) : St w0 w ((v, l) :: R) :=
  ⟨h.laid, h.bel, fun p hp => by
    rcases List.mem_cons.1 hp with rfl | hp
    · exact hr
    · exact h.reads p hp⟩

/-- What a call lays and reads as a list: the literal in one new block. -/
theorem lit_reads (W : World) (l : List Bs) (cur : Array Value) (n : Nat) (hc : cur = (l.map encStr).toArray) (hn : n = l.length) (hl : l.length ≤ 1000) :
    Reads (W.alloc (.cells cur 9)) (.slice (some ⟨W.heap.size, 0, none⟩) n n) (l.map encStr) := by
  have h := ownsRow_whole (w := W) (e := 9) (xs := l.map encStr) hc (by rw [List.length_map]; unfold maxLen; omega)
  rw [List.length_map, ← hn] at h
  refine Reads.of_own (base := W.heap.size) (e := 9) ?_ (by rw [List.length_map]; omega)
  rw [List.length_map, ← hn]
  exact h
theorem below_new {w0 W w' : World} {o : Obj} (hb : Below (W.alloc o).heap.size (W.alloc o) w') : Below W.heap.size W w' :=
  ((Below.refl _ _).alloc (Nat.le_refl _) o).trans (hb.mono (by simp))

theorem own_reads {w w' : World} {v : Value} {l m : List Bs} (h : w'.ownsRow w.heap.size 9 1 v l.length (l.map encStr)) (he : l = m) (hm : m.length ≤ 1000) : Reads w' v (m.map encStr) := by
  subst he
  refine Reads.of_own (base := w.heap.size) (e := 9) ?_ (by rw [List.length_map]; omega)
  rw [List.length_map]
  exact h

/-- One call: a bool, the world as it was. -/
def Quiet (w : World) (b : Bool) (e : Ending) (w' : World) : Prop := e = .returned (.bool b) ∧ w = w'

section
variable (w : World)
theorem kn_valid0 : Calls Tryd.prog 11 #[.string ⟨#[]⟩] w fun e w' => e = .returned (.bool false) ∧ w = w' := keyValid_any ⟨#[]⟩ w
theorem kn_prefix0 : Calls Tryd.prog 15 #[.string ⟨#[]⟩] w fun e w' => e = .returned (.bool true) ∧ w = w' := keyValidPrefix_any ⟨#[]⟩ w
theorem kn_has1 : Calls Tryd.prog 17 #[.string ⟨#[97, 47, 98]⟩, .string ⟨#[97, 47]⟩] w fun e w' => e = .returned (.bool true) ∧ w = w' := by
  have h := keyHas_any ⟨#[97, 47, 98]⟩ ⟨#[97, 47]⟩ w
  rwa [show kHas _ _ = true from by decide] at h
theorem kn_has2 : Calls Tryd.prog 17 #[.string ⟨#[97, 47, 98]⟩, .string ⟨#[98]⟩] w fun e w' => e = .returned (.bool false) ∧ w = w' := by
  have h := keyHas_any ⟨#[97, 47, 98]⟩ ⟨#[98]⟩ w
  rwa [show kHas _ _ = false from by decide] at h
theorem kn_common1 : Calls Tryd.prog 19 #[.string ⟨#[97, 98, 99]⟩, .string ⟨#[97, 98, 100]⟩] w fun e w' => e = .returned (.int .i64 2) ∧ Below w.heap.size w w' := by
  have h := keyCommon_any ⟨#[97, 98, 99]⟩ ⟨#[97, 98, 100]⟩ (by decide) (by decide) w
  rwa [show kCommon _ _ = 2 from by decide] at h
theorem kn_common2 : Calls Tryd.prog 19 #[.string ⟨#[97]⟩, .string ⟨#[]⟩] w fun e w' => e = .returned (.int .i64 0) ∧ Below w.heap.size w w' := by
  have h := keyCommon_any ⟨#[97]⟩ ⟨#[]⟩ (by decide) (by decide) w
  rwa [show kCommon _ _ = 0 from by decide] at h

theorem kn_seg1 (hL : Laid w) : Calls Tryd.prog 21 #[.string ⟨#[97, 47, 47, 98, 47]⟩] w fun e w' => ∃ v, e = .returned (.tuple #[v, .int .i64 0]) ∧ Reads w' v (([[97], [], [98], []] : List Bs).map encStr) ∧ Below w.heap.size w w' := by
  refine (keySegments_any ⟨#[97, 47, 47, 98, 47]⟩ (by decide) w hL).mono ?_
  rintro e w' ⟨v, rfl, ho, hb⟩
  exact ⟨v, rfl, own_reads ho (by decide) (by decide), hb⟩
theorem kn_seg2 (hL : Laid w) : Calls Tryd.prog 21 #[.string ⟨#[120]⟩] w fun e w' => ∃ v, e = .returned (.tuple #[v, .int .i64 0]) ∧ Reads w' v (([[120]] : List Bs).map encStr) ∧ Below w.heap.size w w' := by
  refine (keySegments_any ⟨#[120]⟩ (by decide) w hL).mono ?_
  rintro e w' ⟨v, rfl, ho, hb⟩
  exact ⟨v, rfl, own_reads ho (by decide) (by decide), hb⟩
theorem kn_fold1 : Calls Tryd.prog 22 #[.string ⟨#[97, 47, 47, 98, 47]⟩] w fun e w' => ∃ v, e = .returned (.tuple #[v, .int .i64 0]) ∧ Reads w' v (([[97, 47], [97, 47, 47], [97, 47, 47, 98, 47]] : List Bs).map encStr) ∧ Below w.heap.size w w' := by
  refine (keyFolders_any ⟨#[97, 47, 47, 98, 47]⟩ (by decide) w).mono ?_
  rintro e w' ⟨v, rfl, ho, hb⟩
  exact ⟨v, rfl, own_reads ho (by decide) (by decide), hb⟩
theorem kn_fold2 : Calls Tryd.prog 22 #[.string ⟨#[120]⟩] w fun e w' => ∃ v, e = .returned (.tuple #[v, .int .i64 0]) ∧ Reads w' v (([] : List Bs).map encStr) ∧ Below w.heap.size w w' := by
  refine (keyFolders_any ⟨#[120]⟩ (by decide) w).mono ?_
  rintro e w' ⟨v, rfl, ho, hb⟩
  exact ⟨v, rfl, own_reads ho (by decide) (by decide), hb⟩

theorem kn_list (va vb : Value) (l : List Bs) (a : Int) (ha : Reads w va (l.map encStr)) (hb : Reads w vb (l.map encStr)) :
    Calls Tryd.prog 23 #[va, .int .i64 a, vb, .int .i64 a] w fun e w' => e = .returned (.bool true) ∧ Below w.heap.size w w' := by
  have h := list_any va vb l l a a w ha hb
  rwa [show (decide (l = l) && a == a) = true by simp] at h
theorem kn_list1 (va : Value) (ha : Reads w va (([[97], [], [98], []] : List Bs).map encStr)) :
    Calls Tryd.prog 23 #[va, .int .i64 0, .slice (some ⟨w.heap.size, 0, none⟩) 4 4, .int .i64 0] (w.alloc (.cells #[.string ⟨#[97]⟩, .string ⟨#[]⟩, .string ⟨#[98]⟩, .string ⟨#[]⟩] 9)) fun e w' => e = .returned (.bool true) ∧ Below w.heap.size w w' :=
  (kn_list _ _ _ _ 0 (ha.below ((Below.refl _ _).alloc (Nat.le_refl _) _)) (lit_reads w [[97], [], [98], []] _ 4 rfl rfl (by decide))).mono fun _ _ h => ⟨h.1, below_new (w0 := w) h.2⟩
theorem kn_list2 (va : Value) (ha : Reads w va (([[97, 47], [97, 47, 47], [97, 47, 47, 98, 47]] : List Bs).map encStr)) :
    Calls Tryd.prog 23 #[va, .int .i64 0, .slice (some ⟨w.heap.size, 0, none⟩) 3 3, .int .i64 0] (w.alloc (.cells #[.string ⟨#[97, 47]⟩, .string ⟨#[97, 47, 47]⟩, .string ⟨#[97, 47, 47, 98, 47]⟩] 9)) fun e w' => e = .returned (.bool true) ∧ Below w.heap.size w w' :=
  (kn_list _ _ _ _ 0 (ha.below ((Below.refl _ _).alloc (Nat.le_refl _) _)) (lit_reads w [[97, 47], [97, 47, 47], [97, 47, 47, 98, 47]] _ 3 rfl rfl (by decide))).mono fun _ _ h => ⟨h.1, below_new (w0 := w) h.2⟩
theorem kn_list3 (va : Value) (ha : Reads w va (([[120]] : List Bs).map encStr)) :
    Calls Tryd.prog 23 #[va, .int .i64 0, .slice (some ⟨w.heap.size, 0, none⟩) 1 1, .int .i64 0] (w.alloc (.cells #[.string ⟨#[120]⟩] 9)) fun e w' => e = .returned (.bool true) ∧ Below w.heap.size w w' :=
  (kn_list _ _ _ _ 0 (ha.below ((Below.refl _ _).alloc (Nat.le_refl _) _)) (lit_reads w [[120]] _ 1 rfl rfl (by decide))).mono fun _ _ h => ⟨h.1, below_new (w0 := w) h.2⟩
theorem kn_list4 (va : Value) (a : Int) (ha : Reads w va (([] : List Bs).map encStr)) :
    Calls Tryd.prog 23 #[va, .int .i64 a, .slice none 0 0, .int .i64 a] w fun e w' => e = .returned (.bool true) ∧ Below w.heap.size w w' :=
  kn_list _ _ _ [] a ha (Reads.nil _ _ _)
theorem kn_list5 (va : Value) (ha : Reads w va (([[97], [98]] : List Bs).map encStr)) :
    Calls Tryd.prog 23 #[va, .int .i64 0, .slice (some ⟨w.heap.size, 0, none⟩) 2 2, .int .i64 0] (w.alloc (.cells #[.string ⟨#[97]⟩, .string ⟨#[98]⟩] 9)) fun e w' => e = .returned (.bool true) ∧ Below w.heap.size w w' :=
  (kn_list _ _ _ _ 0 (ha.below ((Below.refl _ _).alloc (Nat.le_refl _) _)) (lit_reads w [[97], [98]] _ 2 rfl rfl (by decide))).mono fun _ _ h => ⟨h.1, below_new (w0 := w) h.2⟩

theorem kn_join1 : Calls Tryd.prog 26 #[.slice (some ⟨w.heap.size, 0, none⟩) 3 3] (w.alloc (.cells #[.string ⟨#[97]⟩, .string ⟨#[]⟩, .string ⟨#[98]⟩] 9)) fun e w' => e = .returned (.tuple #[.string ⟨#[97, 47, 47, 98]⟩, .int .i64 0]) ∧ Below w.heap.size w w' :=
  (keyJoin_any _ [[97], [], [98]] _ (lit_reads w [[97], [], [98]] _ 3 rfl rfl (by decide)) (by decide) (by decide)).mono fun _ _ h => ⟨h.1, below_new (w0 := w) h.2⟩
theorem kn_join2 : Calls Tryd.prog 26 #[.slice none 0 0] w fun e w' => e = .returned (.tuple #[.string ⟨#[]⟩, .int .i64 2]) ∧ Below w.heap.size w w' :=
  keyJoin_any _ [] _ (Reads.nil _ _ _) (by decide) (by decide)
theorem kn_join3 : Calls Tryd.prog 26 #[.slice (some ⟨w.heap.size, 0, none⟩) 1 1] (w.alloc (.cells #[.string ⟨#[97, 47, 98]⟩] 9)) fun e w' => e = .returned (.tuple #[.string ⟨#[]⟩, .int .i64 2]) ∧ Below w.heap.size w w' :=
  (keyJoin_any _ [[97, 47, 98]] _ (lit_reads w [[97, 47, 98]] _ 1 rfl rfl (by decide)) (by decide) (by decide)).mono fun _ _ h => ⟨h.1, below_new (w0 := w) h.2⟩
theorem kn_join4 : Calls Tryd.prog 26 #[.slice (some ⟨w.heap.size, 0, none⟩) 1 1] (w.alloc (.cells #[.string ⟨#[]⟩] 9)) fun e w' => e = .returned (.tuple #[.string ⟨#[]⟩, .int .i64 2]) ∧ Below w.heap.size w w' :=
  (keyJoin_any _ [[]] _ (lit_reads w [[]] _ 1 rfl rfl (by decide)) (by decide) (by decide)).mono fun _ _ h => ⟨h.1, below_new (w0 := w) h.2⟩

theorem kn_one (s : ByteArray) (a : Int) : Calls Tryd.prog 28 #[.string s, .int .i64 a, .string s, .int .i64 a] w fun e w' => e = .returned (.bool true) ∧ w = w' := by
  have h := one_any s s a a w
  rwa [show (s.toList == s.toList && a == a) = true by simp] at h

theorem kn_tags1 : Calls Tryd.prog 29 #[.slice (some ⟨w.heap.size, 0, none⟩) 3 3] (w.alloc (.cells #[.string ⟨#[98]⟩, .string ⟨#[97]⟩, .string ⟨#[98]⟩] 9)) fun e w' => ∃ v, e = .returned (.tuple #[v, .int .i64 0]) ∧ Reads w' v (([[97], [98]] : List Bs).map encStr) ∧ Below w.heap.size w w' := by
  refine (keyTags_any _ [[98], [97], [98]] _ (lit_reads w [[98], [97], [98]] _ 3 rfl rfl (by decide)) (by decide)).mono ?_
  rintro e w' ⟨v, rfl, ho, hb⟩
  exact ⟨v, by rw [show (kTags _).2 = 0 from by decide +kernel], own_reads ho (by decide +kernel) (by decide), below_new (w0 := w) hb⟩
theorem kn_tags2 : Calls Tryd.prog 29 #[.slice (some ⟨w.heap.size, 0, none⟩) 2 2] (w.alloc (.cells #[.string ⟨#[97]⟩, .string ⟨#[]⟩] 9)) fun e w' => ∃ v, e = .returned (.tuple #[v, .int .i64 2]) ∧ Reads w' v (([] : List Bs).map encStr) ∧ Below w.heap.size w w' := by
  refine (keyTags_any _ [[97], []] _ (lit_reads w [[97], []] _ 2 rfl rfl (by decide)) (by decide)).mono ?_
  rintro e w' ⟨v, rfl, ho, hb⟩
  exact ⟨v, by rw [show (kTags _).2 = 2 from by decide +kernel], own_reads ho (by decide +kernel) (by decide), below_new (w0 := w) hb⟩

theorem kn_text1 (hD : Digits w) : Calls Tryd.prog 32 #[.string ⟨#[97, 32, 98, 37]⟩] w fun e w' => e = .returned (.tuple #[.string ⟨#[97, 37, 50, 48, 98, 37, 50, 53]⟩, .int .i64 0]) ∧ Below w.heap.size w w' := by
  have h := keyText_any ⟨#[97, 32, 98, 37]⟩ (by decide) w hD
  rwa [show kText _ = ([97, 37, 50, 48, 98, 37, 50, 53], 0) from by decide +kernel] at h
theorem kn_text2 (hD : Digits w) : Calls Tryd.prog 32 #[.string ⟨#[]⟩] w fun e w' => e = .returned (.tuple #[.string ⟨#[34, 34]⟩, .int .i64 0]) ∧ Below w.heap.size w w' := by
  have h := keyText_any ⟨#[]⟩ (by decide) w hD
  rwa [show kText _ = ([34, 34], 0) from by decide +kernel] at h
theorem kn_text3 (hD : Digits w) : Calls Tryd.prog 32 #[.string ⟨#[195, 164]⟩] w fun e w' => e = .returned (.tuple #[.string ⟨#[37, 99, 51, 37, 97, 52]⟩, .int .i64 0]) ∧ Below w.heap.size w w' := by
  have h := keyText_any ⟨#[195, 164]⟩ (by decide) w hD
  rwa [show kText _ = ([37, 99, 51, 37, 97, 52], 0) from by decide +kernel] at h

theorem kn_parses1 (hD : Digits w) : Calls Tryd.prog 35 #[.string ⟨#[97, 37, 50, 48, 98]⟩, .string ⟨#[97, 32, 98]⟩, .int .i64 0] w fun e w' => e = .returned (.bool true) ∧ Below w.heap.size w w' := by
  have h := parses_any ⟨#[97, 37, 50, 48, 98]⟩ ⟨#[97, 32, 98]⟩ 0 (by decide) w hD
  rwa [show ((kParse (⟨#[97, 37, 50, 48, 98]⟩ : ByteArray).data.toList).1 == (⟨#[97, 32, 98]⟩ : ByteArray).toList && (kParse (⟨#[97, 37, 50, 48, 98]⟩ : ByteArray).data.toList).2 == 0) = true from by decide +kernel] at h
theorem kn_parses2 (hD : Digits w) : Calls Tryd.prog 35 #[.string ⟨#[37, 52, 49]⟩, .string ⟨#[]⟩, .int .i64 6] w fun e w' => e = .returned (.bool true) ∧ Below w.heap.size w w' := by
  have h := parses_any ⟨#[37, 52, 49]⟩ ⟨#[]⟩ 6 (by decide) w hD
  rwa [show ((kParse (⟨#[37, 52, 49]⟩ : ByteArray).data.toList).1 == (⟨#[]⟩ : ByteArray).toList && (kParse (⟨#[37, 52, 49]⟩ : ByteArray).data.toList).2 == 6) = true from by decide +kernel] at h
theorem kn_parses3 (hD : Digits w) : Calls Tryd.prog 35 #[.string ⟨#[]⟩, .string ⟨#[]⟩, .int .i64 6] w fun e w' => e = .returned (.bool true) ∧ Below w.heap.size w w' := by
  have h := parses_any ⟨#[]⟩ ⟨#[]⟩ 6 (by decide) w hD
  rwa [show ((kParse (⟨#[]⟩ : ByteArray).data.toList).1 == (⟨#[]⟩ : ByteArray).toList && (kParse (⟨#[]⟩ : ByteArray).data.toList).2 == 6) = true from by decide +kernel] at h
end
end Go.Proofs.YtbcfbdkacnnkgaaDoor
