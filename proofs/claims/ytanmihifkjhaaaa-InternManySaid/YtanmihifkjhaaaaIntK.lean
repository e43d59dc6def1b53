/- The chapter's examples. -/
import Derived.Test.YtanmihifkjhaaaaIntL
import Derived.Test.YtanmihifkjhaaaaIntO
import Derived.Test.YtanmihifkjhaaaaConv
namespace Go.Proofs.Ytanmihifkjhaaaa
set_option linter.unusedVariables false
open Go.RowKit Go.Maps Go.Sort

/-- A table of the law's own. -/
def Kt (V w : World) (b : Nat) (most seed R : Int) (l : Nms) : Prop := ∃ O, Tab w b O most seed l ∧ (∀ g, O g → V.heap.size ≤ g) ∧ Wf most R l ∧ Below V.heap.size V w
section
variable {V w w' : World} {b : Nat} {most seed R : Int} {l : Nms}
theorem Kt.quiet (k : Kt V w b most seed R l) (h : Below w.heap.size w w') : Kt V w' b most seed R l := by
  obtain ⟨O, h1, h2, h3, h4⟩ := k
  exact ⟨O, h1.below h, h2, h3, h4.trans (h.mono h4.size)⟩
theorem Kt.bel (k : Kt V w b most seed R l) : Below V.heap.size V w := by
  obtain ⟨O, h1, h2, h3, h4⟩ := k
  exact h4
theorem Kt.turn {R' : Int} {l' : Nms} {O O' : Nat → Prop} (h1 : ∀ g, O g → V.heap.size ≤ g) (h2 : Below V.heap.size V w) (t : Tab w' b O' most seed l') (ho : Only O w w') (hg : ∀ g, O' g → O g ∨ w.heap.size ≤ g) (hw : Wf most R' l') : Kt V w' b most seed R' l' :=
  ⟨O', t, fun g h => (hg g h).elim (h1 g) (fun h => Nat.le_trans h2.size h), hw, h2.trans (ho.below h1 h2.size)⟩
theorem Kt.adds (k : Kt V w b most seed R l) (s : ByteArray) (n e : Int) (l' : Nms) (hx : addM most l s.data.toList = (l', n, e)) (hs : s.size ≤ 140737488355328) (hm : 1 ≤ most) (hm2 : most ≤ 65536) (hR0 : 0 ≤ R) (hR : R < 2147483647) :
    Calls Try.prog 14 #[.pointer (some ⟨b, 0, none⟩), .string s, .int .i64 n, .int .i64 e] w fun e w' => e = .returned (.bool true) ∧ Kt V w' b most seed (R + 1) l' := by
  obtain ⟨O, h1, h2, h3, h4⟩ := k
  refine (ladds_any h1 hm hm2 h3 hR s hs l' n e hx).mono ?_
  rintro e w' ⟨O', rfl, t1, t2, t3⟩
  have hw := h3.add (by omega) s.data.toList
  rw [hx] at hw
  exact ⟨rfl, Kt.turn h2 h4 t1 t2 t3 hw⟩
theorem Kt.frees (k : Kt V w b most seed R l) (n : Int) (x : Bool) (e : Int) (l' : Nms) (hx : relM l n = (l', x, e)) (hm : 1 ≤ most) (hR : R ≤ 2147483647) :
    Calls Try.prog 16 #[.pointer (some ⟨b, 0, none⟩), .int .i64 n, .bool x, .int .i64 e] w fun e w' => e = .returned (.bool true) ∧ Kt V w' b most seed R l' := by
  obtain ⟨O, h1, h2, h3, h4⟩ := k
  refine (lfrees_any h1 hm h3 hR n l' x e hx).mono ?_
  rintro e w' ⟨O', rfl, t1, t2, t3⟩
  have hw := h3.rel n
  rw [hx] at hw
  exact ⟨rfl, Kt.turn h2 h4 t1 t2 t3 hw⟩
theorem Kt.finds (k : Kt V w b most seed R l) (s : ByteArray) (x e : Int) (hx : findM l s.data.toList = (x, e)) (hs : s.size ≤ 140737488355328) (hm : 1 ≤ most) :
    Calls Try.prog 27 #[.pointer (some ⟨b, 0, none⟩), .string s, .int .i64 x, .int .i64 e] w fun e w' => e = .returned (.bool true) ∧ Kt V w' b most seed R l := by
  have hk := k
  obtain ⟨O, h1, h2, h3, h4⟩ := k
  exact (lfinds_any h1 hm h3 s hs x e hx).mono fun e w' h => ⟨h.1, hk.quiet h.2⟩
theorem Kt.names (k : Kt V w b most seed R l) (n : Int) (x : List UInt8) (e : Int) (hx : nameM l n = (x, e)) (hm : 1 ≤ most) :
    Calls Try.prog 21 #[.pointer (some ⟨b, 0, none⟩), .int .i64 n, .string ⟨x.toArray⟩, .int .i64 e] w fun e w' => e = .returned (.bool true) ∧ Kt V w' b most seed R l := by
  have hk := k
  obtain ⟨O, h1, h2, h3, h4⟩ := k
  exact (lnames_any h1 hm h3 n x e hx).mono fun e w' h => ⟨h.1, h.2 ▸ hk⟩
theorem Kt.refs (k : Kt V w b most seed R l) (n x e : Int) (hx : refsM l n = (x, e)) (hm : 1 ≤ most) :
    Calls Try.prog 28 #[.pointer (some ⟨b, 0, none⟩), .int .i64 n, .int .i64 x, .int .i64 e] w fun e w' => e = .returned (.bool true) ∧ Kt V w' b most seed R l := by
  have hk := k
  obtain ⟨O, h1, h2, h3, h4⟩ := k
  exact (lrefs_any h1 hm h3 n x e hx).mono fun e w' h => ⟨h.1, h.2 ▸ hk⟩
theorem Kt.lens (k : Kt V w b most seed R l) (n : Int) (hx : (liveN l : Int) = n) (hm : 1 ≤ most) :
    Calls Try.prog 17 #[.pointer (some ⟨b, 0, none⟩), .int .i64 n, .int .i64 most] w fun e w' => e = .returned (.bool true) ∧ Kt V w' b most seed R l := by
  have hk := k
  obtain ⟨O, h1, h2, h3, h4⟩ := k
  exact (llens_any h1 hm n hx).mono fun e w' h => ⟨h.1, hk.quiet h.2⟩
theorem Kt.list (k : Kt V w b most seed R l) (hm : 1 ≤ most) :
    Calls Try.prog 19 #[.pointer (some ⟨b, 0, none⟩)] w fun e w' => ∃ v', e = .returned v' ∧ w'.ownsRow w.heap.size 9 1 v' (namesL l).length ((namesL l).map encStr) ∧ Below w.heap.size w w' ∧ Kt V w' b most seed R l := by
  have hk := k
  obtain ⟨O, h1, h2, h3, h4⟩ := k
  refine (names_any h1 hm).mono ?_
  rintro e w' ⟨v', rfl, t1, t2⟩
  exact ⟨v', rfl, t1, t2, hk.quiet t2⟩
end
theorem Kt.start (V w : World) (hV : Below V.heap.size V w) (most seed : Int) (h1 : 1 ≤ most) (h2 : most ≤ 65536) (s0 : 0 ≤ seed) (s1 : seed ≤ 18446744073709551615) :
    Calls Try.prog 9 #[.int .i64 most, .int .u64 seed] w fun e w' => ∃ b, e = .returned (.tuple #[.pointer (some ⟨b, 0, none⟩), .int .i64 0]) ∧ Kt V w' b most seed 0 [] := by
  refine (new_ok most seed h1 h2 s0 s1 w).mono ?_
  rintro e w' ⟨b, O, rfl, t1, t2, t3⟩
  exact ⟨b, rfl, O, t1, fun g h => Nat.le_trans hV.size (t2 g h), Wf.nil most 0 (by omega) (Int.le_refl _), hV.trans (t3.mono hV.size)⟩
theorem reads_new (w : World) (l : List Value) (t : TypeId) (h : l.length ≤ 1000000) : Reads (w.alloc (.cells l.toArray t)) (.slice (some ⟨w.heap.size, 0, none⟩) l.length l.length) l :=
  Reads.of_own (base := 0) (e := t) (owns_of_block (Nat.zero_le _) (Blk.new w t l.toArray) rfl (Nat.le_refl _) (by unfold maxLen; omega) (List.take_length)) (by omega)
def longT : List UInt8 := List.replicate 65 0
theorem infoByte : (Try.prog.info? 5).map (fun i => (i.zero, i.size, i.bytes)) = some (some (.int .u8 0), 1, 1) := by kernel_rfl
theorem longT_cells : Go.madeCells #[.int .u8 0] 65 = (Lib.byteCells longT).toArray := by kernel_rfl
theorem longT_len : longT.length = 65 := by decide +kernel
theorem conv_long (W : World) : Sem.run Try.prog (convert 41 9 (.slice (some ⟨W.heap.size, 0, none⟩) 65 65)) (W.alloc (.cells (Go.madeCells #[.int .u8 0] 65) 5)) = .ok (.string ⟨longT.toArray⟩) (W.alloc (.cells (Go.madeCells #[.int .u8 0] 65) 5)) := by
  have h := ownsRow_whole (w := W) (e := 5) (xs := Lib.byteCells longT) longT_cells (by rw [Lib.byteCells_length, longT_len]; unfold maxLen; omega)
  rw [Lib.byteCells_length] at h
  have h2 := conv_row _ longT _ _ h
  rw [longT_len] at h2
  exact h2
theorem make_long (W : World) : Sem.run Try.prog (Instr.makeSlice 41 (.int .i64 65) (.int .i64 65)) W = .ok (.slice (some ⟨W.heap.size, 0, none⟩) 65 65) (W.alloc (.cells (Go.madeCells #[.int .u8 0] 65) 5)) :=
  run_make_row' 41 5 (.int .u8 0) 1 Try.underlying41 infoByte rfl .i64 .i64 65 (by decide) (by decide) W
theorem long_facts : ∃ L : ByteArray, (∀ W : World, Sem.run Try.prog (convert 41 9 (.slice (some ⟨W.heap.size, 0, none⟩) 65 65)) (W.alloc (.cells (Go.madeCells #[.int .u8 0] 65) 5)) = .ok (.string L) (W.alloc (.cells (Go.madeCells #[.int .u8 0] 65) 5))) ∧
    L.size ≤ 65 ∧ ∀ l, findM l L.data.toList = (0, 2) :=
  ⟨⟨longT.toArray⟩, conv_long, by decide +kernel, fun l => by unfold findM; rw [if_neg]; decide +kernel⟩
theorem namesL_ex : namesL [([103, 114, 101, 101, 110], 1), ([98, 108, 117, 101], 1), ([103, 111, 108, 100], 1)] = [[98, 108, 117, 101], [103, 111, 108, 100], [103, 114, 101, 101, 110]] := by
  unfold namesL
  rw [isortB_is]
  decide +kernel
set_option maxHeartbeats 4000000 in
set_option maxRecDepth 100000 in
theorem known_any (w : World) :
    Calls Try.prog 10 #[] w fun e w' => e = .returned (.bool true) ∧ Below w.heap.size w w' := by
  have hmk := make_long
  obtain ⟨LL, hcv, z1, z2⟩ := long_facts
  have Z2 := Lib.hid z2
  clear z2
  go_enter Try.func10, Try.ntmps10
  go_wp2_with fail
  refine (Kt.start w w (Below.refl _ _) 3 1 (by decide) (by decide) (by decide) (by decide)).mono ?_
  rintro e v0 ⟨b, rfl, s0⟩
  go_wp2_with fail
  refine (s0.adds ⟨#[114, 101, 100]⟩ 0 0 [([114, 101, 100], 1)] (by decide +kernel) (by decide) (by decide) (by decide) (by decide) (by decide)).mono ?_
  rintro e v1 ⟨rfl, s1⟩
  clear s0
  go_wp2_with fail
  refine (s1.adds ⟨#[98, 108, 117, 101]⟩ 1 0 [([114, 101, 100], 1), ([98, 108, 117, 101], 1)] (by decide +kernel) (by decide) (by decide) (by decide) (by decide) (by decide)).mono ?_
  rintro e v2 ⟨rfl, s2⟩
  clear s1
  go_wp2_with fail
  refine (s2.adds ⟨#[114, 101, 100]⟩ 0 0 [([114, 101, 100], 2), ([98, 108, 117, 101], 1)] (by decide +kernel) (by decide) (by decide) (by decide) (by decide) (by decide)).mono ?_
  rintro e v3 ⟨rfl, s3⟩
  clear s2
  go_wp2_with fail
  refine (s3.refs 0 2 0 (by decide +kernel) (by decide)).mono ?_
  rintro e v4 ⟨rfl, s4⟩
  clear s3
  go_wp2_with fail
  refine (s4.frees (0) false 0 [([114, 101, 100], 1), ([98, 108, 117, 101], 1)] (by decide +kernel) (by decide) (by decide)).mono ?_
  rintro e v5 ⟨rfl, s5⟩
  clear s4
  go_wp2_with fail
  refine (s5.frees (0) true 0 [([], 0), ([98, 108, 117, 101], 1)] (by decide +kernel) (by decide) (by decide)).mono ?_
  rintro e v6 ⟨rfl, s6⟩
  clear s5
  go_wp2_with fail
  refine (s6.finds ⟨#[114, 101, 100]⟩ 0 9 (by decide +kernel) (by decide) (by decide)).mono ?_
  rintro e v7 ⟨rfl, s7⟩
  clear s6
  go_wp2_with fail
  refine (s7.adds ⟨#[103, 114, 101, 101, 110]⟩ 0 0 [([103, 114, 101, 101, 110], 1), ([98, 108, 117, 101], 1)] (by decide +kernel) (by decide) (by decide) (by decide) (by decide) (by decide)).mono ?_
  rintro e v8 ⟨rfl, s8⟩
  clear s7
  go_wp2_with fail
  refine (s8.adds ⟨#[103, 111, 108, 100]⟩ 2 0 [([103, 114, 101, 101, 110], 1), ([98, 108, 117, 101], 1), ([103, 111, 108, 100], 1)] (by decide +kernel) (by decide) (by decide) (by decide) (by decide) (by decide)).mono ?_
  rintro e v9 ⟨rfl, s9⟩
  clear s8
  go_wp2_with fail
  refine (s9.adds ⟨#[112, 105, 110, 107]⟩ 0 7 [([103, 114, 101, 101, 110], 1), ([98, 108, 117, 101], 1), ([103, 111, 108, 100], 1)] (by decide +kernel) (by decide) (by decide) (by decide) (by decide) (by decide)).mono ?_
  rintro e v10 ⟨rfl, s10⟩
  clear s9
  go_wp2_with fail
  refine (s10.names 2 [103, 111, 108, 100] 0 (by decide +kernel) (by decide)).mono ?_
  rintro e v11 ⟨rfl, s11⟩
  clear s10
  go_wp2_with fail
  refine (s11.list (by decide)).mono ?_
  rintro e v12 ⟨u, rfl, o12, b12, s12⟩
  rw [namesL_ex] at o12
  clear s11
  have o12 := (Reads.of_own (xs := [[98, 108, 117, 101], [103, 111, 108, 100], [103, 114, 101, 101, 110]].map encStr) o12 (by decide))
  have O12 := Lib.hid o12
  clear o12 b12
  go_wp2_with fail
  refine (strings_any _ _ [[98, 108, 117, 101], [103, 111, 108, 100], [103, 114, 101, 101, 110]] _ (O12.out.below ((Below.refl _ _).alloc (Nat.le_refl _) _)) (reads_new v12 ([[98, 108, 117, 101], [103, 111, 108, 100], [103, 114, 101, 101, 110]].map encStr) 9 (by decide))).mono ?_
  rintro e v13 ⟨rfl, b13⟩
  have s13 := (s12.quiet ((Below.refl _ _).alloc (Nat.le_refl _) _)).quiet b13
  clear s12 b13 O12
  go_wp2_with fail
  refine (s13.lens 3 (by decide +kernel) (by decide)).mono ?_
  rintro e v14 ⟨rfl, s14⟩
  clear s13
  go_wp2_with fail
  refine (new_bad 0 0 (by decide) _).mono ?_
  rintro e w' ⟨rfl, rfl⟩
  go_wp2_with fail
  refine (new_bad 65537 0 (by decide) _).mono ?_
  rintro e w' ⟨rfl, rfl⟩
  go_wp2_with fail
  refine (s14.frees 3 false 9 [([103, 114, 101, 101, 110], 1), ([98, 108, 117, 101], 1), ([103, 111, 108, 100], 1)] (by decide +kernel) (by decide) (by decide)).mono ?_
  rintro e v15 ⟨rfl, s15⟩
  clear s14
  go_wp2_with fail
  refine (s15.frees (-1) false 9 [([103, 114, 101, 101, 110], 1), ([98, 108, 117, 101], 1), ([103, 111, 108, 100], 1)] (by decide +kernel) (by decide) (by decide)).mono ?_
  rintro e v16 ⟨rfl, s16⟩
  clear s15
  go_wp2_with fail
  refine (s16.names 7 [] 9 (by decide +kernel) (by decide)).mono ?_
  rintro e v17 ⟨rfl, s17⟩
  clear s16
  go_wp2_with fail
  refine (s17.adds ⟨#[]⟩ 0 2 [([103, 114, 101, 101, 110], 1), ([98, 108, 117, 101], 1), ([103, 111, 108, 100], 1)] (by decide +kernel) (by decide) (by decide) (by decide) (by decide) (by decide)).mono ?_
  rintro e v18 ⟨rfl, s18⟩
  clear s17
  go_wp2_with fail
  refine ((s18.quiet ((Below.refl _ _).alloc (Nat.le_refl _) _)).finds LL 0 2 (Z2.out _) (by omega) (by decide)).mono ?_
  rintro e v19 ⟨rfl, s19⟩
  clear s18
  go_wp2_with fail
  go_ret
  exact ⟨rfl, s19.bel⟩
end Go.Proofs.Ytanmihifkjhaaaa
