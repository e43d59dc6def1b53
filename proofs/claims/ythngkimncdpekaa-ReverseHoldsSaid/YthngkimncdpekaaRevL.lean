/- The examples of layer 18. -/
import Derived.Test.YthngkimncdpekaaRevK
import Derived.Test.YthngkimncdpekaaIntO
namespace Go.Proofs.Ythngkimncdpekaa
set_option linter.unusedVariables false
open Go.RowKit Go.Maps Go.Sort

theorem reads_lit (w : World) (l : List Value) (t : TypeId) (n : Nat) (hn : n = l.length) (h : l.length ≤ 1000000) : Reads (w.alloc (.cells l.toArray t)) (.slice (some ⟨w.heap.size, 0, none⟩) n n) l := by
  subst hn
  refine ⟨_, _, rfl, by omega, .inr ⟨w.heap.size, 0, rfl, by simp, Nat.le_refl _, fun i x hx => ?_⟩⟩
  rw [Nat.zero_add, Blk.cell (Blk.new w t l.toArray) i]
  simpa using hx
section
variable {V w : World} {S : Nat → Prop} {x : Nat} {most seed R : Int} {n : Nat} {d : Dx}
theorem Kr.alloc (k : Kr V w S x most seed R n d) (o : Obj) : Kr V (w.alloc o) (fun g => S g ∨ g = w.heap.size) x most seed R n d := k.keep ((Below.refl _ _).alloc (Nat.le_refl _) o) (fun g hg => hg.imp (fun h => h) (fun h => ⟨by omega, by rw [h]; simp⟩))
/-- What is no longer kept. -/
theorem Kr.less (k : Kr V w S x most seed R n d) {S' : Nat → Prop} (h : ∀ g, S' g → S g) : Kr V w S' x most seed R n d := k.keep (Below.refl _ _) (fun g hg => .inl (h g hg))
theorem KrP.less {W : World} {S' : Nat → Prop} {V : World} {x : Nat} {most seed R : Int} {n : Nat} {d : Dx} {e : Ending} {w' : World} (h : KrP V W S x most seed R n d e w') (hs : ∀ g, S' g → S g) : e = .returned (.bool true) ∧ Kr V w' S' x most seed R n d := ⟨h.1, h.2.1.less hs⟩
theorem Kr.adds2 (k : Kr V w S x most seed R n d) (hn : n ≤ 10000) (hR0 : 0 ≤ R) (hR : R ≤ 2147483000) (id : Nat) (idI : Int) (hI : idI = (id : Int)) (hid : id ≤ 18446744073709551615) (T : List (List UInt8)) (ns : List Nat) (tv nv : List Value) (a b : Nat) (htv : tv = T.map encStr) (hnv : nv = numsV ns) (ha : a = T.length) (hb : b = ns.length) (hl : T.length ≤ 1000) (hl2 : ns.length ≤ 1000) {er : Int} (hx : (d.add most id T).2 = (ns, er)) :
    Calls Try.prog 32 #[.pointer (some ⟨x, 0, none⟩), .int .u64 idI, .slice (some ⟨w.heap.size, 0, none⟩) a a, .slice (some ⟨w.heap.size + 1, 0, none⟩) b b, .int .i64 er] ((w.alloc (.cells tv.toArray 9)).alloc (.cells nv.toArray 3)) fun e w' => e = .returned (.bool true) ∧ Kr V w' S x most seed (R + 16) (n + 16) (d.add most id T).1 := by
  subst hI htv hnv ha hb
  have k2 := (k.alloc (.cells (T.map encStr).toArray 9)).alloc (.cells (numsV ns).toArray 3)
  have hs : (w.alloc (.cells (T.map encStr).toArray 9)).heap.size = w.heap.size + 1 := by simp
  rw [hs] at k2
  have hr1 := (reads_lit w (T.map encStr) 9 T.length (by simp) (by simp; omega)).below ((Below.refl _ _).alloc (Nat.le_refl _) (.cells (numsV ns).toArray 3))
  have hr2 := reads_lit (w.alloc (.cells (T.map encStr).toArray 9)) (numsV ns) 3 ns.length (by simp) (by simp; omega)
  rw [hs] at hr2
  refine (k2.adds hn hR0 hR id hid _ T hr1 hl (d' := (d.add most id T).1) (ns := ns) (er := er) (by rw [← hx]) hl2 _ hr2 (fun g hg => .inl (.inr (by simpa [Value.ownBlock] using hg.symm)))).mono ?_
  intro e w' h
  exact h.less (fun g hg => .inl (.inl hg))
theorem Kr.adds1 (k : Kr V w S x most seed R n d) (hn : n ≤ 10000) (hR0 : 0 ≤ R) (hR : R ≤ 2147483000) (id : Nat) (idI : Int) (hI : idI = (id : Int)) (hid : id ≤ 18446744073709551615) (T : List (List UInt8)) (tv : List Value) (a : Nat) (htv : tv = T.map encStr) (ha : a = T.length) (hl : T.length ≤ 1000) {er : Int} (hx : (d.add most id T).2 = ([], er)) :
    Calls Try.prog 32 #[.pointer (some ⟨x, 0, none⟩), .int .u64 idI, .slice (some ⟨w.heap.size, 0, none⟩) a a, .slice none 0 0, .int .i64 er] (w.alloc (.cells tv.toArray 9)) fun e w' => e = .returned (.bool true) ∧ Kr V w' S x most seed (R + 16) (n + 16) (d.add most id T).1 := by
  subst hI htv ha
  have k2 := k.alloc (.cells (T.map encStr).toArray 9)
  have hr1 := reads_lit w (T.map encStr) 9 T.length (by simp) (by simp; omega)
  refine (k2.adds hn hR0 hR id hid _ T hr1 hl (d' := (d.add most id T).1) (ns := []) (er := er) (by rw [← hx]) (by decide) _ (Reads.nil _ _ _) (fun g hg => by simp [Value.ownBlock] at hg)).mono ?_
  intro e w' h
  exact h.less (fun g hg => .inl hg)
theorem Kr.drops1 (k : Kr V w S x most seed R n d) (hn : n ≤ 100000) (hR : R ≤ 2147483647) (id : Nat) (idI : Int) (hI : idI = (id : Int)) (hid : id ≤ 18446744073709551615) (ns : List Nat) (nv : List Value) (b : Nat) (hnv : nv = numsV ns) (hb : b = ns.length) (hl2 : ns.length ≤ 1000) {er : Int} (hx : (d.drop id).2 = (ns, er)) :
    Calls Try.prog 33 #[.pointer (some ⟨x, 0, none⟩), .int .u64 idI, .slice (some ⟨w.heap.size, 0, none⟩) b b, .int .i64 er] (w.alloc (.cells nv.toArray 3)) fun e w' => e = .returned (.bool true) ∧ Kr V w' S x most seed R n (d.drop id).1 := by
  subst hI hnv hb
  have k2 := k.alloc (.cells (numsV ns).toArray 3)
  have hr2 := reads_lit w (numsV ns) 3 ns.length (by simp) (by simp; omega)
  refine (k2.drops hn hR id hid (d' := (d.drop id).1) (ns := ns) (er := er) (by rw [← hx]) hl2 _ hr2 (fun g hg => .inl (.inr (by simpa [Value.ownBlock] using hg.symm)))).mono ?_
  intro e w' h
  exact h.less (fun g hg => .inl hg)
theorem Kr.drops0 (k : Kr V w S x most seed R n d) (hn : n ≤ 100000) (hR : R ≤ 2147483647) (id : Nat) (idI : Int) (hI : idI = (id : Int)) (hid : id ≤ 18446744073709551615) {er : Int} (hx : (d.drop id).2 = ([], er)) :
    Calls Try.prog 33 #[.pointer (some ⟨x, 0, none⟩), .int .u64 idI, .slice none 0 0, .int .i64 er] w fun e w' => e = .returned (.bool true) ∧ Kr V w' S x most seed R n (d.drop id).1 := by
  subst hI
  refine (k.drops hn hR id hid (d' := (d.drop id).1) (ns := []) (er := er) (by rw [← hx]) (by decide) _ (Reads.nil _ _ _) (fun g hg => by simp [Value.ownBlock] at hg)).mono ?_
  intro e w' h
  exact ⟨h.1, h.2.1⟩
theorem Kr.slots1 (k : Kr V w S x most seed R n d) (hn : n ≤ 100000) (t : Int) (L : List Nat) (nv : List Value) (b : Nat) (hnv : nv = idsV L) (hb : b = L.length) (hl : L.length ≤ 1000) (ht : numB t = true) (hx : ofX d.sl t.toNat = L) :
    Calls Try.prog 44 #[.pointer (some ⟨x, 0, none⟩), .int .i64 t, .slice (some ⟨w.heap.size, 0, none⟩) b b, .int .i64 0] (w.alloc (.cells nv.toArray 29)) fun e w' => e = .returned (.bool true) ∧ Kr V w' S x most seed R n d := by
  subst hnv hb
  have k2 := k.alloc (.cells (idsV L).toArray 29)
  have hr2 := reads_lit w (idsV L) 29 L.length (by simp) (by simp; omega)
  have hs : slotsN d.sl t = L := by unfold slotsN; rw [if_pos ht, hx]
  refine (k2.slots hn t _ (by rw [hs]; exact hr2) (by rw [if_pos ht])).mono ?_
  intro e w' h
  exact h.less (fun g hg => .inl hg)
theorem Kr.has2 (k : Kr V w S x most seed R n d) (id : Nat) (idI : Int) (hI : idI = (id : Int)) (hid : id ≤ 18446744073709551615) (T : List (List UInt8)) (ns : List Nat) (tv nv : List Value) (a b : Nat) (htv : tv = T.map encStr) (hnv : nv = numsV ns) (ha : a = T.length) (hb : b = ns.length) (hl : T.length ≤ 1000) (hl2 : ns.length ≤ 1000) (h1 : tagsE d.all id = T) (h2 : numsE d.all id = ns) {er : Int} (her : er = errE d.all id) :
    Calls Try.prog 37 #[.pointer (some ⟨x, 0, none⟩), .int .u64 idI, .slice (some ⟨w.heap.size, 0, none⟩) a a, .slice (some ⟨w.heap.size + 1, 0, none⟩) b b, .int .i64 er] ((w.alloc (.cells tv.toArray 9)).alloc (.cells nv.toArray 3)) fun e w' => e = .returned (.bool true) ∧ Kr V w' S x most seed R n d := by
  subst hI htv hnv ha hb
  have k2 := (k.alloc (.cells (T.map encStr).toArray 9)).alloc (.cells (numsV ns).toArray 3)
  have hs : (w.alloc (.cells (T.map encStr).toArray 9)).heap.size = w.heap.size + 1 := by simp
  rw [hs] at k2
  have hr1 := (reads_lit w (T.map encStr) 9 T.length (by simp) (by simp; omega)).below ((Below.refl _ _).alloc (Nat.le_refl _) (.cells (numsV ns).toArray 3))
  have hr2 := reads_lit (w.alloc (.cells (T.map encStr).toArray 9)) (numsV ns) 3 ns.length (by simp) (by simp; omega)
  rw [hs] at hr2
  refine (k2.has id hid _ _ (by rw [h1]; exact hr1) (by rw [h2]; exact hr2) (by rw [h1, h2]; exact ⟨hl, hl2⟩) her).mono ?_
  intro e w' h
  exact h.less (fun g hg => .inl (.inl hg))
/-- Right, beside a list of the law's own. -/
theorem Kr.rights (k : Kr V w S x most seed R n d) (hn : n ≤ 100000) (s : ByteArray) (hs : s.size ≤ 140737488355328) :
    Calls Try.prog 43 #[.pointer (some ⟨x, 0, none⟩), .string s] w fun e w' => ∃ v, e = .returned v ∧ w'.ownsRow w.heap.size 29 1 v (rightX d.all s.data.toList).length (idsV (rightX d.all s.data.toList)) ∧ Below w.heap.size w w' ∧ Kr V w' S x most seed R n d := by
  have hk := k
  obtain ⟨O, Rd, ⟨tb, lb, sb, own, lm, sm, l0, h1, _⟩, h2, h3, h4⟩ := k
  refine (rvright_any h1 hn s hs).mono ?_
  rintro e w' ⟨v, rfl, hv, hb⟩
  rw [List.length_map] at hv
  exact ⟨v, rfl, hv, hb, hk.quiet hb⟩
theorem Kr.knowns (k : Kr V w S x most seed R n d) :
    Calls Try.prog 40 #[.pointer (some ⟨x, 0, none⟩)] w fun e w' => ∃ v, e = .returned v ∧ w'.ownsRow w.heap.size 9 1 v (namesL d.nm).length ((namesL d.nm).map encStr) ∧ Below w.heap.size w w' ∧ Kr V w' S x most seed R n d := by
  have hk := k
  obtain ⟨O, Rd, ⟨tb, lb, sb, own, lm, sm, l0, h1, _⟩, h2, h3, h4⟩ := k
  refine (rvknown_any h1).mono ?_
  rintro e w' ⟨v, rfl, hv, hb⟩
  exact ⟨v, rfl, hv, hb, hk.quiet hb⟩
end
theorem Kr.start (V w : World) (hV : Below V.heap.size V w) (most seed : Int) (h1 : 1 ≤ most) (h2 : most ≤ 65536) (s0 : 0 ≤ seed) (s1 : seed ≤ 18446744073709551615) :
    Calls Try.prog 11 #[.int .i64 most, .int .u64 seed] w fun e w' => ∃ x, e = .returned (.tuple #[.pointer (some ⟨x, 0, none⟩), .int .i64 0]) ∧ Kr V w' (fun _ => False) x most seed 0 0 ⟨[], [], []⟩ ∧ Below w.heap.size w w' := by
  refine (rvnew_ok most seed h1 h2 s0 s1 w).mono ?_
  rintro e w' ⟨x, O, rfl, hr, ho, hb⟩
  exact ⟨x, rfl, ⟨O, fun _ => False, hr, fun g hg => ⟨by rcases hg with hg | hg; have := ho g hg; have := hV.size; omega; exact hg.elim, fun h => h⟩, fun _ h => h.elim, hV.trans (hb.mono hV.size)⟩, hb⟩
def kd0 : Dx := ⟨[], [], []⟩
def kd1 : Dx := (kd0.add 3 1 [[98, 108, 117, 101], [114, 101, 100]]).1
def kd2 : Dx := (kd1.add 3 2 [[114, 101, 100]]).1
def kd3 : Dx := (kd2.add 3 5 [[103, 114, 101, 101, 110]]).1
def kd4 : Dx := (kd3.add 3 6 [[112, 105, 110, 107]]).1
def kd5 : Dx := (kd4.drop 1).1
def kd6 : Dx := (kd5.add 3 7 [[112, 105, 110, 107], [114, 101, 100]]).1
def kd7 : Dx := (kd6.cut 1 0).1
def kd8 : Dx := (kd7.cut 1 0).1
def kd9 : Dx := (kd8.cut 0 5).1
def kd10 : Dx := (kd9.add 3 7 [[114, 101, 100]]).1
def kd11 : Dx := (kd10.add 3 8 [[114, 101, 100], [98, 108, 117, 101]]).1
def kd12 : Dx := (kd11.drop 1).1
theorem known_names : namesL kd6.nm = [[103, 114, 101, 101, 110], [112, 105, 110, 107], [114, 101, 100]] := by
  unfold namesL
  rw [isortB_is]
  decide +kernel
set_option maxHeartbeats 8000000 in
set_option maxRecDepth 100000 in
theorem rknown_any (w0 : World) :
    Calls Try.prog 31 #[] w0 fun e w' => e = .returned (.bool true) ∧ Below w0.heap.size w0 w' := by
  go_enter Try.func31, Try.ntmps31
  go_wp2_with fail
  refine (Kr.start w0 w0 (Below.refl _ _) 3 1 (by decide) (by decide) (by decide) (by decide)).mono ?_
  rintro e v0 ⟨x, rfl, s0', _⟩
  have s0 : Kr w0 v0 (fun _ => False) x 3 1 0 0 kd0 := s0'
  clear s0' 
  go_wp2_with fail
  refine (s0.adds2 (by decide) (by decide) (by decide) 1 1 rfl (by decide) [[98, 108, 117, 101], [114, 101, 100]] [0, 1] _ _ 2 2 rfl rfl rfl rfl (by decide) (by decide) (er := 0) (by decide +kernel)).mono ?_
  rintro e v1 ⟨rfl, s1'⟩
  have s1 : Kr w0 v1 (fun _ => False) x 3 1 16 16 kd1 := s1'
  clear s0 s1'
  go_wp2_with fail
  refine (s1.adds2 (by decide) (by decide) (by decide) 2 2 rfl (by decide) [[114, 101, 100]] [1] _ _ 1 1 rfl rfl rfl rfl (by decide) (by decide) (er := 0) (by decide +kernel)).mono ?_
  rintro e v2 ⟨rfl, s2'⟩
  have s2 : Kr w0 v2 (fun _ => False) x 3 1 32 32 kd2 := s2'
  clear s1 s2'
  go_wp2_with fail
  refine (s2.adds2 (by decide) (by decide) (by decide) 5 5 rfl (by decide) [[103, 114, 101, 101, 110]] [2] _ _ 1 1 rfl rfl rfl rfl (by decide) (by decide) (er := 0) (by decide +kernel)).mono ?_
  rintro e v3 ⟨rfl, s3'⟩
  have s3 : Kr w0 v3 (fun _ => False) x 3 1 48 48 kd3 := s3'
  clear s2 s3'
  go_wp2_with fail
  refine (s3.adds1 (by decide) (by decide) (by decide) 6 6 rfl (by decide) [[112, 105, 110, 107]] _ 1 rfl rfl (by decide) (er := 7) (by decide +kernel)).mono ?_
  rintro e v4 ⟨rfl, s4'⟩
  have s4 : Kr w0 v4 (fun _ => False) x 3 1 64 64 kd4 := s4'
  clear s3 s4'
  go_wp2_with fail
  refine (s4.drops1 (by decide) (by decide) 1 1 rfl (by decide) [0] _ 1 rfl rfl (by decide) (er := 0) (by decide +kernel)).mono ?_
  rintro e v5 ⟨rfl, s5'⟩
  have s5 : Kr w0 v5 (fun _ => False) x 3 1 64 64 kd5 := s5'
  clear s4 s5'
  go_wp2_with fail
  refine ((s5.finds ⟨#[98, 108, 117, 101]⟩ (by decide) (a := 0) (b := 9) (by decide +kernel)).mono fun e w h => (⟨h.1, h.2.1⟩ : e = .returned (.bool true) ∧ Kr w0 w _ _ _ _ _ _ _)).mono ?_
  rintro e v6 ⟨rfl, s6'⟩
  have s6 : Kr w0 v6 (fun _ => False) x 3 1 64 64 kd5 := s6'
  clear s5 s6'
  go_wp2_with fail
  refine (s6.slots1 (by decide) 0 [1] _ 1 rfl rfl (by decide) (by decide) (by decide +kernel)).mono ?_
  rintro e v7 ⟨rfl, s7'⟩
  have s7 : Kr w0 v7 (fun _ => False) x 3 1 64 64 kd5 := s7'
  clear s6 s7'
  go_wp2_with fail
  refine (s7.slots1 (by decide) 1 [1, 2] _ 2 rfl rfl (by decide) (by decide) (by decide +kernel)).mono ?_
  rintro e v8 ⟨rfl, s8'⟩
  have s8 : Kr w0 v8 (fun _ => False) x 3 1 64 64 kd5 := s8'
  clear s7 s8'
  go_wp2_with fail
  refine (s8.adds2 (by decide) (by decide) (by decide) 7 7 rfl (by decide) [[112, 105, 110, 107], [114, 101, 100]] [0, 1] _ _ 2 2 rfl rfl rfl rfl (by decide) (by decide) (er := 0) (by decide +kernel)).mono ?_
  rintro e v9 ⟨rfl, s9'⟩
  have s9 : Kr w0 v9 (fun _ => False) x 3 1 80 80 kd6 := s9'
  clear s8 s9'
  go_wp2_with fail
  refine (s9.slots1 (by decide) 0 [1, 7] _ 2 rfl rfl (by decide) (by decide) (by decide +kernel)).mono ?_
  rintro e v10 ⟨rfl, s10'⟩
  have s10 : Kr w0 v10 (fun _ => False) x 3 1 80 80 kd6 := s10'
  clear s9 s10'
  go_wp2_with fail
  refine (s10.slots1 (by decide) 1 [1, 2, 7] _ 3 rfl rfl (by decide) (by decide) (by decide +kernel)).mono ?_
  rintro e v11 ⟨rfl, s11'⟩
  have s11 : Kr w0 v11 (fun _ => False) x 3 1 80 80 kd6 := s11'
  clear s10 s11'
  go_wp2_with fail
  refine (s11.rights (by decide) ⟨#[114, 101, 100]⟩ (by decide)).mono ?_
  rintro e v12a ⟨vr, rfl, or_, br, sr⟩
  rw [show rightX kd6.all (⟨#[114, 101, 100]⟩ : ByteArray).data.toList = [2, 7] by decide +kernel] at or_
  clear s11
  go_wp2_with fail
  have sq := sr.quiet ((Below.refl v12a.heap.size v12a).alloc (Nat.le_refl _) (.cells (idsV [2, 7]).toArray 29))
  refine (ids_any _ _ [2, 7] _ ((Reads.own_ or_ rfl (by decide)).below ((Below.refl v12a.heap.size v12a).alloc (Nat.le_refl _) (.cells (idsV [2, 7]).toArray 29))) (reads_lit v12a (idsV [2, 7]) 29 2 rfl (by decide))).mono ?_
  rintro e v12 ⟨rfl, b2⟩
  have s12 := sq.quiet b2
  clear sr sq or_ br b2
  go_wp2_with fail
  refine ((s12.sizes (a := 6) (b := 2) (by decide +kernel) (by decide +kernel)).mono fun e w h => (⟨h.1, h.2.1⟩ : e = .returned (.bool true) ∧ Kr w0 w _ _ _ _ _ _ _)).mono ?_
  rintro e v13 ⟨rfl, s13'⟩
  have s13 : Kr w0 v13 (fun _ => False) x 3 1 80 80 kd6 := s13'
  clear s12 s13'
  go_wp2_with fail
  refine s13.knowns.mono ?_
  rintro e v14a ⟨vr, rfl, or_, br, sr⟩
  rw [known_names] at or_
  clear s13
  go_wp2_with fail
  have sq := sr.quiet ((Below.refl v14a.heap.size v14a).alloc (Nat.le_refl _) (.cells ([[103, 114, 101, 101, 110], [112, 105, 110, 107], [114, 101, 100]].map encStr).toArray 9))
  refine (strings_any _ _ [[103, 114, 101, 101, 110], [112, 105, 110, 107], [114, 101, 100]] _ ((Reads.own_ or_ rfl (by decide)).below ((Below.refl v14a.heap.size v14a).alloc (Nat.le_refl _) (.cells ([[103, 114, 101, 101, 110], [112, 105, 110, 107], [114, 101, 100]].map encStr).toArray 9))) (reads_lit v14a ([[103, 114, 101, 101, 110], [112, 105, 110, 107], [114, 101, 100]].map encStr) 9 3 rfl (by decide))).mono ?_
  rintro e v14 ⟨rfl, b2⟩
  have s14 := sq.quiet b2
  clear sr sq or_ br b2
  go_wp2_with fail
  refine ((s14.cuts (by decide) 1 0 (d' := (kd6.cut 1 0).1) (b := true) (er := 0) (Prod.ext rfl (by decide +kernel))).mono fun e w h => (⟨h.1, h.2.1⟩ : e = .returned (.bool true) ∧ Kr w0 w _ _ _ _ _ _ _)).mono ?_
  rintro e v15 ⟨rfl, s15'⟩
  have s15 : Kr w0 v15 (fun _ => False) x 3 1 80 81 kd7 := s15'
  clear s14 s15'
  go_wp2_with fail
  refine ((s15.cuts (by decide) 1 0 (d' := (kd7.cut 1 0).1) (b := false) (er := 0) (Prod.ext rfl (by decide +kernel))).mono fun e w h => (⟨h.1, h.2.1⟩ : e = .returned (.bool true) ∧ Kr w0 w _ _ _ _ _ _ _)).mono ?_
  rintro e v16 ⟨rfl, s16'⟩
  have s16 : Kr w0 v16 (fun _ => False) x 3 1 80 82 kd8 := s16'
  clear s15 s16'
  go_wp2_with fail
  refine ((s16.cuts (by decide) 0 5 (d' := (kd8.cut 0 5).1) (b := false) (er := 9) (Prod.ext rfl (by decide +kernel))).mono fun e w h => (⟨h.1, h.2.1⟩ : e = .returned (.bool true) ∧ Kr w0 w _ _ _ _ _ _ _)).mono ?_
  rintro e v17 ⟨rfl, s17'⟩
  have s17 : Kr w0 v17 (fun _ => False) x 3 1 80 83 kd9 := s17'
  clear s16 s17'
  go_wp2_with fail
  refine (s17.slots1 (by decide) 1 [2, 7] _ 2 rfl rfl (by decide) (by decide) (by decide +kernel)).mono ?_
  rintro e v18 ⟨rfl, s18'⟩
  have s18 : Kr w0 v18 (fun _ => False) x 3 1 80 83 kd9 := s18'
  clear s17 s18'
  go_wp2_with fail
  refine ((s18.nexts 0 (a := 0) (b := 0) (by decide +kernel)).mono fun e w h => (⟨h.1, h.2.1⟩ : e = .returned (.bool true) ∧ Kr w0 w _ _ _ _ _ _ _)).mono ?_
  rintro e v19 ⟨rfl, s19'⟩
  have s19 : Kr w0 v19 (fun _ => False) x 3 1 80 83 kd9 := s19'
  clear s18 s19'
  go_wp2_with fail
  refine ((s19.nexts 3 (a := 0) (b := 9) (by decide +kernel)).mono fun e w h => (⟨h.1, h.2.1⟩ : e = .returned (.bool true) ∧ Kr w0 w _ _ _ _ _ _ _)).mono ?_
  rintro e v20 ⟨rfl, s20'⟩
  have s20 : Kr w0 v20 (fun _ => False) x 3 1 80 83 kd9 := s20'
  clear s19 s20'
  go_wp2_with fail
  refine ((s20.sizes (a := 5) (b := 1) (by decide +kernel) (by decide +kernel)).mono fun e w h => (⟨h.1, h.2.1⟩ : e = .returned (.bool true) ∧ Kr w0 w _ _ _ _ _ _ _)).mono ?_
  rintro e v21 ⟨rfl, s21'⟩
  have s21 : Kr w0 v21 (fun _ => False) x 3 1 80 83 kd9 := s21'
  clear s20 s21'
  go_wp2_with fail
  refine (s21.adds1 (by decide) (by decide) (by decide) 7 7 rfl (by decide) [[114, 101, 100]] _ 1 rfl rfl (by decide) (er := 2) (by decide +kernel)).mono ?_
  rintro e v22 ⟨rfl, s22'⟩
  have s22 : Kr w0 v22 (fun _ => False) x 3 1 96 99 kd10 := s22'
  clear s21 s22'
  go_wp2_with fail
  refine (s22.adds1 (by decide) (by decide) (by decide) 8 8 rfl (by decide) [[114, 101, 100], [98, 108, 117, 101]] _ 2 rfl rfl (by decide) (er := 2) (by decide +kernel)).mono ?_
  rintro e v23 ⟨rfl, s23'⟩
  have s23 : Kr w0 v23 (fun _ => False) x 3 1 112 115 kd11 := s23'
  clear s22 s23'
  go_wp2_with fail
  refine (s23.drops0 (by decide) (by decide) 1 1 rfl (by decide) (er := 9) (by decide +kernel)).mono ?_
  rintro e v24 ⟨rfl, s24'⟩
  have s24 : Kr w0 v24 (fun _ => False) x 3 1 112 115 kd12 := s24'
  clear s23 s24'
  go_wp2_with fail
  refine (s24.has2 7 7 rfl (by decide) [[112, 105, 110, 107], [114, 101, 100]] [0, 1] _ _ 2 2 rfl rfl rfl rfl (by decide) (by decide) (by decide +kernel) (by decide +kernel) (er := 0) (by decide +kernel)).mono ?_
  rintro e v25 ⟨rfl, s25'⟩
  have s25 : Kr w0 v25 (fun _ => False) x 3 1 112 115 kd12 := s25'
  clear s24 s25'
  go_wp2_with fail
  refine ((s25.rooms (a := 3) (by decide +kernel)).mono fun e w h => (⟨h.1, h.2.1⟩ : e = .returned (.bool true) ∧ Kr w0 w _ _ _ _ _ _ _)).mono ?_
  rintro e v26 ⟨rfl, s26'⟩
  have s26 : Kr w0 v26 (fun _ => False) x 3 1 112 115 kd12 := s26'
  clear s25 s26'
  go_wp2_with fail
  go_ret
  exact ⟨rfl, s26.bel⟩
end Go.Proofs.Ythngkimncdpekaa
