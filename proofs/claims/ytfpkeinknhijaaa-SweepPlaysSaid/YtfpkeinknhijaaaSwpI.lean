/- The examples of layer 19. -/
import Derived.Test.YtfpkeinknhijaaaSwpQ
import Derived.Test.YtfpkeinknhijaaaRevN
import Derived.Test.YtfpkeinknhijaaaRevJ
/- Refusals, and the law's helpers of layer 19. -/
namespace Go.Proofs.Ytfpkeinknhijaaa
set_option linter.unusedVariables false
open Go.RowKit Go.Maps Go.Sort

section
variable {V w w' : World} {S : Nat → Prop} {x : Nat} {most seed R : Int} {nn : Nat} {d : Dx} {s n i rd : Nat}
set_option maxHeartbeats 1000000 in
/-- A nil sweeper. -/
theorem swstep_nil (k : Kr V w S x most seed R nn d) (hn : nn ≤ 100000) (m : Int) :
    Calls Try.prog 45 #[.pointer none, .pointer (some ⟨x, 0, none⟩), .int .i64 m] w fun e w' => e = .returned (.tuple #[.int .i64 0, .int .i64 0, .int .i64 1]) ∧ Below w.heap.size w w' := by
  obtain ⟨tb, lb, sb, own, Rd, lm, sm, l0, hry⟩ := k.ry
  have HSL := Lib.hid (rvslots_any hry hn 0)
  clear hry k
  go_enter Try.func45, Try.ntmps45
  go_wp2_with fail
  go_step3
  go_wp2_with (go_at_call 52; refine HSL.out.mono ?_; rintro e w1 ⟨v1, rfl, hv1, b1⟩; obtain ⟨p1, k1, rfl⟩ := owns_form hv1)
  try rw [Exit.noGoto_ret]
  go_ret3
  exact ⟨rfl, b1⟩
set_option maxHeartbeats 1000000 in
/-- A number below zero. -/
theorem swstep_neg (k : Kr V w S x most seed R nn d) (hn : nn ≤ 100000) (m : Int) (hm : m < 0) :
    Calls Try.prog 45 #[.pointer (some ⟨s, 0, none⟩), .pointer (some ⟨x, 0, none⟩), .int .i64 m] w fun e w' => e = .returned (.tuple #[.int .i64 0, .int .i64 0, .int .i64 2]) ∧ Below w.heap.size w w' := by
  obtain ⟨tb, lb, sb, own, Rd, lm, sm, l0, hry⟩ := k.ry
  have HSL := Lib.hid (rvslots_any hry hn 0)
  have hn0 : (if numB 0 = true then (0 : Int) else 2) = 0 := by decide
  rw [hn0] at HSL
  clear hry k
  go_enter Try.func45, Try.ntmps45
  go_wp2_with fail
  go_step3
  go_wp2_with (go_at_call 52; refine HSL.out.mono ?_; rintro e w1 ⟨v1, rfl, hv1, b1⟩; obtain ⟨p1, k1, rfl⟩ := owns_form hv1)
  try rw [Exit.noGoto_ret]
  go_ret3
  exact ⟨rfl, b1⟩
set_option maxHeartbeats 1000000 in
/-- No index. -/
theorem swstep_nx {WF : World} {q : Option Addr} (h : NX WF q) (hb : Below WF.heap.size WF w) (t : Value) (ht : t = .pointer none ∨ ∃ g, t = .pointer (some ⟨g, 0, none⟩)) (m : Int) :
    Calls Try.prog 45 #[t, .pointer q, .int .i64 m] w fun e w' => e = .returned (.tuple #[.int .i64 0, .int .i64 0, .int .i64 1]) ∧ Below WF.heap.size WF w' := by
  have HS := Lib.hid (nx_slots h hb 0)
  clear h hb
  rcases ht with rfl | ⟨g, rfl⟩
  · go_enter Try.func45, Try.ntmps45
    go_wp2_with fail
    go_step3
    go_wp2_with (go_at_call 52; refine HS.out.mono ?_; rintro e w1 ⟨rfl, b1⟩)
    try rw [Exit.noGoto_ret]
    go_ret3
    exact ⟨rfl, b1⟩
  · go_enter Try.func45, Try.ntmps45
    go_wp2_with fail
    go_step3
    go_wp2_with (go_at_call 52; refine HS.out.mono ?_; rintro e w1 ⟨rfl, b1⟩)
    try rw [Exit.noGoto_ret]
    go_ret3
    exact ⟨rfl, b1⟩
set_option maxHeartbeats 1000000 in
theorem swall_nx {WF : World} {q : Option Addr} (h : NX WF q) (hb : Below WF.heap.size WF w) :
    Calls Try.prog 50 #[.pointer q] w fun e w' => e = .returned (.tuple #[.int .i64 0, .int .i64 1]) ∧ Below WF.heap.size WF w' := by
  have hb2 : Below WF.heap.size WF (w.alloc (.cells (swCs 0 0 0) 102)) := hb.alloc hb.size _
  have HS := Lib.hid (swstep_nx h hb2 (.pointer (some ⟨w.heap.size, 0, none⟩)) (.inr ⟨_, rfl⟩) 64)
  obtain ⟨c0, c1, c2⟩ := Swp.cells (Blk.new w 102 (swCs 0 0 0))
  clear h hb hb2
  go_enter Try.func50, Try.ntmps50
  go_wp2_with (go_at_call 34; refine (swnew_any _).mono ?_; rintro e w1 ⟨rfl, rfl⟩)
  go_loopg [5] 0 (fun r s5 wr => wr = w.alloc (.cells (swCs 0 0 0) 102))
  case atStart => rfl
  case round =>
    subst hrel
    go_wp2_with (go_at_call 45; refine HS.out.mono ?_; rintro e w1 ⟨rfl, b1⟩)
    go_ret2
    exact ⟨rfl, b1⟩
end
end Go.Proofs.Ytfpkeinknhijaaa
/- The law's helpers of layer 19: steps, at, all. -/
namespace Go.Proofs.Ytfpkeinknhijaaa
set_option linter.unusedVariables false
open Go.RowKit Go.Maps Go.Sort

section
variable {w : World}
set_option maxHeartbeats 1000000 in
theorem lsteps_of {t p : Value} {m lk gn er : Int} {Q : World → Prop} (h : Calls Try.prog 45 #[t, p, .int .i64 m] w fun e w' => e = .returned (.tuple #[.int .i64 lk, .int .i64 gn, .int .i64 er]) ∧ Q w') :
    Calls Try.prog 39 #[t, p, .int .i64 m, .int .i64 lk, .int .i64 gn, .int .i64 er] w fun e w' => e = .returned (.bool true) ∧ Q w' := by
  have H := Lib.hid h
  clear h
  go_enter Try.func39, Try.ntmps39
  go_wp2_with (go_at_call 45; refine H.out.mono ?_; rintro e w1 ⟨rfl, q1⟩)
  go_ret
  exact ⟨by simp, q1⟩
set_option maxHeartbeats 1000000 in
theorem lall_of {p : Value} {gn er : Int} {Q : World → Prop} (h : Calls Try.prog 50 #[p] w fun e w' => e = .returned (.tuple #[.int .i64 gn, .int .i64 er]) ∧ Q w') :
    Calls Try.prog 42 #[p, .int .i64 gn, .int .i64 er] w fun e w' => e = .returned (.bool true) ∧ Q w' := by
  have H := Lib.hid h
  clear h
  go_enter Try.func42, Try.ntmps42
  go_wp2_with (go_at_call 50; refine H.out.mono ?_; rintro e w1 ⟨rfl, q1⟩)
  go_ret
  exact ⟨by simp, q1⟩
set_option maxHeartbeats 1000000 in
theorem lat_any {s n i r : Nat} (h : Swp w s n i r) : Calls Try.prog 43 #[.pointer (some ⟨s, 0, none⟩), .int .i64 (n : Int), .int .i64 (i : Int), .int .u64 (r : Int)] w fun e w' => e = .returned (.bool true) ∧ Below w.heap.size w w' := by
  have HA := Lib.hid (swat_any h)
  have HS := Lib.hid h
  clear h
  go_enter Try.func43, Try.ntmps43
  go_wp2_with (first
    | (go_at_call 79; refine HA.out.mono ?_; rintro e w1 ⟨rfl, b1⟩)
    | (go_at_call 46; refine (swrounds_any (Blk.below HS.out b1 (Blk.lt HS.out))).mono ?_; rintro e w2 ⟨rfl, rfl⟩))
  go_ret
  exact ⟨by simp, b1⟩
set_option maxHeartbeats 1000000 in
theorem lat_nil (w : World) : Calls Try.prog 43 #[.pointer none, .int .i64 0, .int .i64 0, .int .u64 0] w fun e w' => e = .returned (.bool true) ∧ w = w' := by
  go_enter Try.func43, Try.ntmps43
  go_wp2_with (first
    | (go_at_call 79; refine (swat_nil _).mono ?_; rintro e w1 ⟨rfl, rfl⟩)
    | (go_at_call 46; refine (swrounds_nil _).mono ?_; rintro e w2 ⟨rfl, rfl⟩))
  go_ret
  exact ⟨rfl, rfl⟩
end
end Go.Proofs.Ytfpkeinknhijaaa
/- The example's index, layer 19. -/
namespace Go.Proofs.Ytfpkeinknhijaaa
set_option linter.unusedVariables false
open Go.RowKit Go.Maps Go.Sort

def exT : List (List (List UInt8)) := [[[97]], [[97], [98]], [[98], [99], [100], [101]], [[101]]]
def exA : Nat → Dx
  | 0 => ⟨[], [], []⟩
  | k + 1 => ((exA k).add 9 (k + 1) (exT.getD k [])).1
def exR : Nat → Dx
  | 0 => exA 4
  | k + 1 => ((exR k).drop (k + 2)).1
def exC : Nat → Dx
  | 0 => exR 2
  | k + 1 => ((exC k).cut ((k + 2 : Nat) : Int) 0).1
def exD : Dx := exC 2
theorem exA_ok : ∀ k, k < 4 → ((exA k).add 9 (k + 1) (exT.getD k [])).2.2 = 0 ∧ (exT.getD k []).length ≤ 4 := by decide +kernel
theorem exR_ok : ∀ k, k < 2 → ((exR k).drop (k + 2)).2.2 = 0 := by decide +kernel
theorem exC_ok : ∀ k, k < 2 → ((exC k).cut ((k + 2 : Nat) : Int) 0).2 = (true, 0) := by decide +kernel
theorem exC_succ (k : Nat) : ((exC k).cut ((k + 2 : Nat) : Int) 0).1 = exC (k + 1) := by rw [exC]
theorem exA_succ (k : Nat) : ((exA k).add 9 (k + 1) (exT.getD k [])).1 = exA (k + 1) := by rw [exA]
theorem exR_succ (k : Nat) : ((exR k).drop (k + 2)).1 = exR (k + 1) := by rw [exR]
theorem reads_blk {w : World} {g : Nat} {t : TypeId} {l : List Value} (h : Blk w g t l.toArray) (hl : l.length ≤ 1000000) : Reads w (.slice (some ⟨g, 0, none⟩) l.length l.length) l := by
  refine ⟨_, _, rfl, by omega, .inr ⟨g, 0, rfl, Blk.lt h, Nat.le_refl _, fun i x hx => ?_⟩⟩
  rw [Nat.zero_add, Blk.cell h i]
  simpa using hx
def lits (w1 : World) : World :=
  (((((w1.alloc (.cells #[.string ⟨#[97]⟩] 9)).alloc (.cells #[.string ⟨#[97]⟩, .string ⟨#[98]⟩] 9)).alloc (.cells #[.string ⟨#[98]⟩, .string ⟨#[99]⟩, .string ⟨#[100]⟩, .string ⟨#[101]⟩] 9)).alloc (.cells #[.string ⟨#[101]⟩] 9)).alloc
    (.cells #[.slice (some ⟨w1.heap.size, 0, none⟩) 1 1, .slice (some ⟨w1.heap.size + 1, 0, none⟩) 2 2, .slice (some ⟨w1.heap.size + 1 + 1, 0, none⟩) 4 4, .slice (some ⟨w1.heap.size + 1 + 1 + 1, 0, none⟩) 1 1] 31))
structure Lits (B : Nat) (w : World) : Prop where
  size : B + 5 ≤ w.heap.size
  cell : ∀ k, k < 4 → w.cell? ⟨B + 4, k, none⟩ = some (.slice (some ⟨B + k, 0, none⟩) (exT.getD k []).length (exT.getD k []).length)
  reads : ∀ k, k < 4 → Reads w (.slice (some ⟨B + k, 0, none⟩) (exT.getD k []).length (exT.getD k []).length) ((exT.getD k []).map encStr)
theorem lits_is (w1 : World) : Lits w1.heap.size (lits w1) ∧ Below w1.heap.size w1 (lits w1) := by
  have hb : Below w1.heap.size w1 (lits w1) := by
    unfold lits
    exact (((((Below.refl _ _).alloc (Nat.le_refl _) _).alloc (by simp) _).alloc (by simp; omega) _).alloc (by simp; omega) _).alloc (by simp; omega) _
  have s1 : ∀ (w : World) (o : Obj), (w.alloc o).heap.size = w.heap.size + 1 := fun w o => by simp
  have b0 : Blk (lits w1) w1.heap.size 9 ([[97]].map encStr).toArray := ((((Blk.new w1 _ _).alloc _).alloc _).alloc _).alloc _
  have b1 : Blk (lits w1) (w1.heap.size + 1) 9 ([[97], [98]].map encStr).toArray := by
    have h := (((Blk.new (w1.alloc (.cells #[.string ⟨#[97]⟩] 9)) 9 ([[97], [98]].map encStr).toArray).alloc (.cells #[.string ⟨#[98]⟩, .string ⟨#[99]⟩, .string ⟨#[100]⟩, .string ⟨#[101]⟩] 9)).alloc (.cells #[.string ⟨#[101]⟩] 9))
    rw [s1] at h
    exact h.alloc _
  have b2 : Blk (lits w1) (w1.heap.size + 2) 9 ([[98], [99], [100], [101]].map encStr).toArray := by
    have h := ((Blk.new ((w1.alloc (.cells #[.string ⟨#[97]⟩] 9)).alloc (.cells #[.string ⟨#[97]⟩, .string ⟨#[98]⟩] 9)) 9 ([[98], [99], [100], [101]].map encStr).toArray).alloc (.cells #[.string ⟨#[101]⟩] 9))
    rw [s1, s1] at h
    exact h.alloc _
  have b3 : Blk (lits w1) (w1.heap.size + 3) 9 ([[101]].map encStr).toArray := by
    have h := (Blk.new (((w1.alloc (.cells #[.string ⟨#[97]⟩] 9)).alloc (.cells #[.string ⟨#[97]⟩, .string ⟨#[98]⟩] 9)).alloc (.cells #[.string ⟨#[98]⟩, .string ⟨#[99]⟩, .string ⟨#[100]⟩, .string ⟨#[101]⟩] 9)) 9 ([[101]].map encStr).toArray)
    rw [s1, s1, s1] at h
    exact h.alloc _
  have b4 : Blk (lits w1) (w1.heap.size + 4) 31 #[.slice (some ⟨w1.heap.size, 0, none⟩) 1 1, .slice (some ⟨w1.heap.size + 1, 0, none⟩) 2 2, .slice (some ⟨w1.heap.size + 1 + 1, 0, none⟩) 4 4, .slice (some ⟨w1.heap.size + 1 + 1 + 1, 0, none⟩) 1 1] := by
    have h := (Blk.new ((((w1.alloc (.cells #[.string ⟨#[97]⟩] 9)).alloc (.cells #[.string ⟨#[97]⟩, .string ⟨#[98]⟩] 9)).alloc (.cells #[.string ⟨#[98]⟩, .string ⟨#[99]⟩, .string ⟨#[100]⟩, .string ⟨#[101]⟩] 9)).alloc (.cells #[.string ⟨#[101]⟩] 9)) 31 #[.slice (some ⟨w1.heap.size, 0, none⟩) 1 1, .slice (some ⟨w1.heap.size + 1, 0, none⟩) 2 2, .slice (some ⟨w1.heap.size + 1 + 1, 0, none⟩) 4 4, .slice (some ⟨w1.heap.size + 1 + 1 + 1, 0, none⟩) 1 1])
    rw [s1, s1, s1, s1] at h
    exact h
  refine ⟨⟨by unfold lits; rw [s1, s1, s1, s1, s1]; exact Nat.le_refl _, fun k hk => ?_, fun k hk => ?_⟩, hb⟩
  · rw [Blk.cell b4 k]
    match k, hk with
    | 0, _ => rfl
    | 1, _ => rfl
    | 2, _ => rfl
    | 3, _ => rfl
  · match k, hk with
    | 0, _ => exact reads_blk b0 (by decide)
    | 1, _ => exact reads_blk b1 (by decide)
    | 2, _ => exact reads_blk b2 (by decide)
    | 3, _ => exact reads_blk b3 (by decide)
theorem Only.cell_ {U : Nat → Prop} {w w' : World} (h : Only U w w') {p : Addr} (hp : p.block < w.heap.size) (hn : ¬ U p.block) : w'.cell? p = w.cell? p := by
  unfold World.cell?
  rw [h.block _ hp hn]
theorem Lits.only {B : Nat} {w w' : World} (h : Lits B w) {U : Nat → Prop} (ho : Only U w w') (hU : ∀ g, U g → ¬ (B ≤ g ∧ g < B + 5)) : Lits B w' := by
  refine ⟨Nat.le_trans h.size ho.size, fun k hk => ?_, fun k hk => ?_⟩
  · rw [← h.cell k hk]
    exact ho.cell_ (p := ⟨B + 4, k, none⟩) (by have := h.size; show B + 4 < _; omega) (fun hu => hU _ hu ⟨Nat.le_add_right _ _, by show B + 4 < B + 5; omega⟩)
  · exact (h.reads k hk).only_ ho (fun g hg hu => by
      simp only [Value.ownBlock, Option.some.injEq] at hg
      exact hU g hu ⟨by omega, by omega⟩)
set_option maxHeartbeats 4000000 in
set_option maxRecDepth 100000 in
theorem example_any (V w : World) (hV : Below V.heap.size V w) :
    Calls Try.prog 47 #[] w fun e w' => ∃ x, e = .returned (.pointer (some ⟨x, 0, none⟩)) ∧ Kr V w' (fun _ => False) x 9 1 64 66 exD := by
  go_enter Try.func47, Try.ntmps47
  go_wp2_with fail
  refine (Kr.start V w hV 9 1 (by decide) (by decide) (by decide) (by decide)).mono ?_
  rintro e w1 ⟨x, rfl, k1, _⟩
  have K1 := Lib.hid k1
  clear k1
  go_wp2_with fail
  obtain ⟨hl, hb⟩ := lits_is w1
  obtain ⟨W2, hW2⟩ : ∃ W2, lits w1 = W2 := ⟨_, rfl⟩
  rw [hW2] at hl hb
  have HL := Lib.hid hl
  have hsz : W2.heap.size = w1.heap.size + 5 := by rw [← hW2]; unfold lits; simp
  have HK := Lib.hid (K1.out.keep hb (S' := fun g => w1.heap.size ≤ g ∧ g < w1.heap.size + 5) (fun g hg => .inr ⟨hg.1, by rw [hsz]; exact hg.2⟩))
  have HVB : Hid (V.heap.size ≤ w1.heap.size) := K1.out.bel.size
  unfold lits at hW2
  rw [hW2]
  obtain ⟨B, hB⟩ : ∃ B, w1.heap.size = B := ⟨_, rfl⟩
  rw [hB] at HL HK HVB
  simp only [hB]
  clear hW2 hl hb K1 hsz hB
  go_loopg [27] 4 (fun r i wr => ∃ k : Nat, k ≤ 4 ∧ r + k = 4 ∧ i = .int .i64 (k : Int) ∧ Kr V wr (fun g => B ≤ g ∧ g < B + 5) x 9 1 (16 * k : Nat) (16 * k) (exA k) ∧ Lits B wr)
  case atStart => exact ⟨0, by omega, rfl, rfl, HK.out, HL.out⟩
  case round =>
    clear HK HL
    obtain ⟨k, hk4, hr, rfl, hk, hl⟩ := hrel
    have HK := Lib.hid hk
    have HL := Lib.hid hl
    have HR := Lib.hid hr
    clear hk hl hr
    by_cases hlt : k < 4
    · obtain ⟨hok, hlen⟩ := exA_ok k hlt
      have c0 := HL.out.cell k hlt
      obtain ⟨⟨d1, ns, er⟩, hadd⟩ : ∃ r, (exA k).add 9 (k + 1) (exT.getD k []) = r := ⟨_, rfl⟩
      rw [hadd] at hok
      simp only at hok
      subst hok
      have hA := HK.out.addv (by omega) (by omega) (by omega) (k + 1) (by omega) _ _ (HL.out.reads k hlt) (by omega) hadd
      have hd1 : d1 = exA (k + 1) := by rw [← exA_succ, hadd]
      rw [show ((k + 1 : Nat) : Int) = (k : Int) + 1 by omega] at hA
      have HA := Lib.hid hA
      clear hA hadd
      generalize (exT.getD k []).length = nl at *
      go_wp2_with (go_at_call 13; refine HA.out.mono ?_; rintro e w2 ⟨v, rfl, hv, k2, o2⟩; have HL2 := Lib.hid (HL.out.only o2 (fun g h hg => h.1 hg)); have K2 := Lib.hid (k2.less (fun g h => .inl h)))
      go_roundg (4 - (k + 1))
      case measure => have := HR.out; omega
      case rel => exact ⟨k + 1, by omega, by omega, by go_num, by rw [← hd1]; exact K2.out.mono (by omega) (by omega), HL2.out⟩
    · obtain rfl : k = 4 := by omega
      clear hlt hk4 HR
      go_wp2_with fail
      have HK2 := Lib.hid (((HK.out.less (S' := fun _ => False) (fun _ h => h.elim)).alloc (.cells #[.int .u64 2, .int .u64 3] 29)).less (S' := fun g => g = wr.heap.size) (fun _ h => .inr h))
      have BK := Lib.hid (Blk.new wr 29 #[.int .u64 2, .int .u64 3])
      obtain ⟨B2, hB2⟩ : ∃ B2, wr.heap.size = B2 := ⟨_, rfl⟩
      rw [hB2] at HK2 BK
      simp only [hB2]
      clear HK HL hB2 HVB
      generalize wr.alloc (.cells #[.int .u64 2, .int .u64 3] 29) = W3 at *
      go_loopg [46] 2 (fun r i wr => ∃ k : Nat, k ≤ 2 ∧ r + k = 2 ∧ i = .int .i64 (k : Int) ∧ Kr V wr (fun g => g = B2) x 9 1 64 64 (exR k) ∧ Blk wr B2 29 #[.int .u64 2, .int .u64 3])
      case atStart => exact ⟨0, by omega, rfl, rfl, HK2.out, BK.out⟩
      case round =>
        clear HK2 BK
        obtain ⟨k, hk2, hr, rfl, hk, hb⟩ := hrel
        have HK := Lib.hid hk
        have BK := Lib.hid hb
        have HR := Lib.hid hr
        clear hk hr hb
        by_cases hlt : k < 2
        · have hok := exR_ok k hlt
          have c0 : wr.cell? ⟨B2, k, none⟩ = some (.int .u64 ((k : Int) + 2)) := by
            rw [Blk.cell BK.out k]
            rcases (by omega : k = 0 ∨ k = 1) with rfl | rfl <;> rfl
          obtain ⟨⟨d1, ns, er⟩, hadd⟩ : ∃ r, (exR k).drop (k + 2) = r := ⟨_, rfl⟩
          rw [hadd] at hok
          simp only at hok
          subst hok
          have hA := HK.out.dropv (by omega) (by omega) (k + 2) (by omega) hadd
          have hd1 : d1 = exR (k + 1) := by rw [← exR_succ, hadd]
          rw [show ((k + 2 : Nat) : Int) = (k : Int) + 2 by omega] at hA
          have HA := Lib.hid hA
          clear hA hadd
          go_wp2_with (go_at_call 15; refine HA.out.mono ?_; rintro e w2 ⟨v, rfl, hv, k2, o2⟩; have BK2 := Lib.hid (Blk.only BK.out o2 (fun h => h.1 rfl)); have K2 := Lib.hid (k2.less (fun g h => .inl h)))
          go_roundg (2 - (k + 1))
          case measure => have := HR.out; omega
          case rel => exact ⟨k + 1, by omega, by omega, by go_num, by rw [← hd1]; exact K2.out, BK2.out⟩
        · obtain rfl : k = 2 := by omega
          clear hlt hk2 HR
          go_wp2_with fail
          have HK2 := Lib.hid (((HK.out.less (S' := fun _ => False) (fun _ h => h.elim)).alloc (.cells #[.int .i64 2, .int .i64 3] 3)).less (S' := fun g => g = wr.heap.size) (fun _ h => .inr h))
          have BK2 := Lib.hid (Blk.new wr 3 #[.int .i64 2, .int .i64 3])
          obtain ⟨B3, hB3⟩ : ∃ B3, wr.heap.size = B3 := ⟨_, rfl⟩
          rw [hB3] at HK2 BK2
          simp only [hB3]
          clear HK BK hB3
          generalize wr.alloc (.cells #[.int .i64 2, .int .i64 3] 3) = W4 at *
          go_loopg [61] 2 (fun r i wr => ∃ k : Nat, k ≤ 2 ∧ r + k = 2 ∧ i = .int .i64 (k : Int) ∧ Kr V wr (fun g => g = B3) x 9 1 64 (64 + k) (exC k) ∧ Blk wr B3 3 #[.int .i64 2, .int .i64 3])
          case atStart => exact ⟨0, by omega, rfl, rfl, HK2.out, BK2.out⟩
          case round =>
            clear HK2 BK2
            obtain ⟨k, hk2, hr, rfl, hk, hb⟩ := hrel
            have HK := Lib.hid hk
            have BK := Lib.hid hb
            have HR := Lib.hid hr
            clear hk hr hb
            by_cases hlt : k < 2
            · have hok := exC_ok k hlt
              have c0 : wr.cell? ⟨B3, k, none⟩ = some (.int .i64 ((k : Int) + 2)) := by
                rw [Blk.cell BK.out k]
                rcases (by omega : k = 0 ∨ k = 1) with rfl | rfl <;> rfl
              have hx : (exC k).cut ((k + 2 : Nat) : Int) 0 = (exC (k + 1), true, 0) := by rw [← exC_succ, ← hok]
              have hA := HK.out.cutv (by omega) _ _ hx
              clear hx
              rw [show ((k + 2 : Nat) : Int) = (k : Int) + 2 by omega] at hA
              have HA := Lib.hid hA
              clear hA hok
              go_wp2_with (go_at_call 17; refine HA.out.mono ?_; rintro e w2 ⟨rfl, k2, o2⟩; have BK2 := Lib.hid (Blk.only BK.out o2 (fun h => h.1 rfl)); have K2 := Lib.hid k2)
              go_roundg (2 - (k + 1))
              case measure => have := HR.out; omega
              case rel => exact ⟨k + 1, by omega, by omega, by go_num, K2.out, BK2.out⟩
            · obtain rfl : k = 2 := by omega
              go_wp2_with fail
              go_ret
              exact ⟨x, rfl, HK.out.less (fun _ h => h.elim)⟩
end Go.Proofs.Ytfpkeinknhijaaa
/- A sweeper and an index of the law's own, layer 19. -/
namespace Go.Proofs.Ytfpkeinknhijaaa
set_option linter.unusedVariables false
open Go.RowKit Go.Maps Go.Sort

/-- An index and a sweeper of the law's own; S is what else is kept. -/
structure Sk (V w : World) (S : Nat → Prop) (x : Nat) (most seed R : Int) (nn : Nat) (d : Dx) (s n i rd : Nat) : Prop where
  kr : Kr V w (fun g => S g ∨ g = s) x most seed R nn d
  sw : Swp w s n i rd
  hv : V.heap.size ≤ s
  ns : ¬ S s
def SkP (V w : World) (S : Nat → Prop) (x : Nat) (most seed R : Int) (nn : Nat) (d : Dx) (s n i rd : Nat) (e : Ending) (w' : World) : Prop :=
  e = .returned (.bool true) ∧ Sk V w' S x most seed R nn d s n i rd ∧ Only (fun g => ¬ S g ∧ V.heap.size ≤ g) w w'
section
variable {V w w' : World} {S : Nat → Prop} {x : Nat} {most seed R : Int} {nn : Nat} {d : Dx} {s n i rd : Nat}
theorem Sk.bel (k : Sk V w S x most seed R nn d s n i rd) : Below V.heap.size V w := k.kr.bel
theorem Sk.mono (k : Sk V w S x most seed R nn d s n i rd) {R' : Int} {n' : Nat} (hR : R ≤ R') (hn : nn ≤ n') : Sk V w S x most seed R' n' d s n i rd := ⟨k.kr.mono hR hn, k.sw, k.hv, k.ns⟩
theorem Sk.slt (k : Sk V w S x most seed R nn d s n i rd) {g : Nat} (hg : S g ∨ g = s) : g < w.heap.size := by obtain ⟨_, _, _, _, h3, _⟩ := k.kr; exact h3 g hg
theorem Sk.keep (k : Sk V w S x most seed R nn d s n i rd) (hb : Below w.heap.size w w') {S' : Nat → Prop} (hS : ∀ g, S' g → S g ∨ (w.heap.size ≤ g ∧ g < w'.heap.size)) : Sk V w' S' x most seed R nn d s n i rd := by
  refine ⟨k.kr.keep hb (fun g hg => ?_), k.sw.below hb k.sw.lt, k.hv, fun h => ?_⟩
  · rcases hg with h | h
    · rcases hS g h with h | h
      · exact .inl (.inl h)
      · exact .inr h
    · exact .inl (.inr h)
  · rcases hS s h with h | h
    · exact k.ns h
    · have := k.sw.lt; omega
theorem Sk.quiet (k : Sk V w S x most seed R nn d s n i rd) (hb : Below w.heap.size w w') : Sk V w' S x most seed R nn d s n i rd := k.keep hb (fun _ h => .inl h)
theorem Sk.less (k : Sk V w S x most seed R nn d s n i rd) {S' : Nat → Prop} (h : ∀ g, S' g → S g) : Sk V w S' x most seed R nn d s n i rd := k.keep (Below.refl _ _) (fun g hg => .inl (h g hg))
/-- A call on the index alone. -/
theorem Sk.onkr (k : Sk V w S x most seed R nn d s n i rd) {R' : Int} {n' : Nat} {d' : Dx} (k' : Kr V w' (fun g => S g ∨ g = s) x most seed R' n' d') (ho : Only (fun g => ¬ (S g ∨ g = s) ∧ V.heap.size ≤ g) w w') : Sk V w' S x most seed R' n' d' s n i rd ∧ Only (fun g => ¬ S g ∧ V.heap.size ≤ g) w w' :=
  ⟨⟨k', k.sw.only ho (fun h => h.1 (.inr rfl)), k.hv, k.ns⟩, ho.more (fun g h => .inl ⟨fun hs => h.1 (.inl hs), h.2⟩)⟩
theorem Sk.liftk (k : Sk V w S x most seed R nn d s n i rd) {f : FuncId} {args : Array Value} {R' : Int} {n' : Nat} {d' : Dx} (h : Calls Try.prog f args w (KrP V w (fun g => S g ∨ g = s) x most seed R' n' d')) : Calls Try.prog f args w (SkP V w S x most seed R' n' d' s n i rd) := by
  refine h.mono ?_
  rintro e w' ⟨rfl, k1, o1⟩
  obtain ⟨a, b⟩ := k.onkr k1 o1
  exact ⟨rfl, a, b⟩
theorem Sk.step (k : Sk V w S x most seed R nn d s n i rd) (m : Nat) (hm : nn + m ≤ 100000) (hp : n < 65536) (hi : i ≤ 100001) (hrd : rd ≤ 1000000) {r : Sst} (hr : swGo m d n i 0 0 = r) :
    Calls Try.prog 45 #[.pointer (some ⟨s, 0, none⟩), .pointer (some ⟨x, 0, none⟩), .int .i64 (m : Int)] w fun e w' => e = .returned (.tuple #[.int .i64 (r.lk : Int), .int .i64 (r.gn : Int), .int .i64 0]) ∧ Sk V w' S x most seed R (nn + m) r.d s r.n r.i (if r.fin = true then rd + 1 else rd) ∧ Only (fun g => ¬ S g ∧ V.heap.size ≤ g) w w' := by
  rw [← hr]
  refine (swstep_any k.kr k.sw (.inr rfl) k.hv m hm hp hi hrd).mono ?_
  rintro e w' ⟨rfl, k1, s1, o1⟩
  refine ⟨rfl, ⟨k1, s1, k.hv, k.ns⟩, o1.more (fun g h => .inl ?_)⟩
  rcases h with h | h
  · rw [h]; exact ⟨k.ns, k.hv⟩
  · exact ⟨fun hs => h.1 (.inl hs), h.2⟩
theorem Sk.steps (k : Sk V w S x most seed R nn d s n i rd) (m : Nat) (hm : nn + m ≤ 100000) (hp : n < 65536) (hi : i ≤ 100001) (hrd : rd ≤ 1000000) {r : Sst} (hr : swGo m d n i 0 0 = r) {mi lk gn : Int} (hmi : mi = (m : Int)) (hlk : lk = (r.lk : Int)) (hgn : gn = (r.gn : Int)) :
    Calls Try.prog 39 #[.pointer (some ⟨s, 0, none⟩), .pointer (some ⟨x, 0, none⟩), .int .i64 mi, .int .i64 lk, .int .i64 gn, .int .i64 0] w (SkP V w S x most seed R (nn + m) r.d s r.n r.i (if r.fin = true then rd + 1 else rd)) := by
  subst hmi hlk hgn
  exact lsteps_of (k.step m hm hp hi hrd hr)
theorem Sk.neg (k : Sk V w S x most seed R nn d s n i rd) (hn : nn ≤ 100000) (m : Int) (hm : m < 0) :
    Calls Try.prog 39 #[.pointer (some ⟨s, 0, none⟩), .pointer (some ⟨x, 0, none⟩), .int .i64 m, .int .i64 0, .int .i64 0, .int .i64 2] w (SkP V w S x most seed R nn d s n i rd) := by
  refine (lsteps_of (swstep_neg (s := s) k.kr hn m hm)).mono ?_
  rintro e w' ⟨rfl, hb⟩
  exact ⟨rfl, k.quiet hb, Only.of_below hb _⟩
theorem Sk.none_ (k : Sk V w S x most seed R nn d s n i rd) (m : Int) :
    Calls Try.prog 39 #[.pointer (some ⟨s, 0, none⟩), .pointer none, .int .i64 m, .int .i64 0, .int .i64 0, .int .i64 1] w (SkP V w S x most seed R nn d s n i rd) := by
  refine (lsteps_of (swstep_nx (nx_nil w) (Below.refl _ _) (.pointer (some ⟨s, 0, none⟩)) (.inr ⟨_, rfl⟩) m)).mono ?_
  rintro e w' ⟨rfl, hb⟩
  exact ⟨rfl, k.quiet hb, Only.of_below hb _⟩
theorem Sk.at_ (k : Sk V w S x most seed R nn d s n i rd) {a b c : Int} (ha : a = (n : Int)) (hb : b = (i : Int)) (hc : c = (rd : Int)) :
    Calls Try.prog 43 #[.pointer (some ⟨s, 0, none⟩), .int .i64 a, .int .i64 b, .int .u64 c] w (SkP V w S x most seed R nn d s n i rd) := by
  subst ha hb hc
  refine (lat_any k.sw).mono ?_
  rintro e w' ⟨rfl, hb⟩
  exact ⟨rfl, k.quiet hb, Only.of_below hb _⟩
theorem Sk.alls (k : Sk V w S x most seed R nn d s n i rd) (hm : nn ≤ 40000) {a : Int} (ha : a = (wrongX d.all d.sl : Int)) :
    Calls Try.prog 42 #[.pointer (some ⟨x, 0, none⟩), .int .i64 a, .int .i64 0] w (SkP V w S x most seed R (nn + d.sl.length + 64) (liveSl d) s n i rd) := by
  subst ha
  exact k.liftk (lall_of (swall_any k.kr hm))
/-- Add and Drop; the row that they return is kept. -/
def SkV (V w : World) (S : Nat → Prop) (x : Nat) (most seed R : Int) (nn : Nat) (d : Dx) (s n i rd : Nat) (ns : List Nat) (er : Int) (e : Ending) (w' : World) : Prop :=
  ∃ v, e = .returned (.tuple #[v, .int .i64 er]) ∧ w'.ownsRow w.heap.size 3 1 v ns.length (numsV ns) ∧ Sk V w' (fun g => S g ∨ bkv v g) x most seed R nn d s n i rd ∧ Only (fun g => ¬ S g ∧ V.heap.size ≤ g) w w'
theorem Sk.liftv (k : Sk V w S x most seed R nn d s n i rd) {f : FuncId} {args : Array Value} {R' : Int} {n' : Nat} {d' : Dx} {ns : List Nat} {er : Int} (h : Calls Try.prog f args w (KvP V w (fun g => S g ∨ g = s) x most seed R' n' d' ns er)) : Calls Try.prog f args w (SkV V w S x most seed R' n' d' s n i rd ns er) := by
  refine h.mono ?_
  rintro e w' ⟨v, rfl, hv, k1, o1⟩
  refine ⟨v, rfl, hv, ⟨k1.less (fun g h => ?_), k.sw.only o1 (fun h => h.1 (.inr rfl)), k.hv, fun h => ?_⟩, o1.more (fun g h => .inl ⟨fun hs => h.1 (.inl hs), h.2⟩)⟩
  · rcases h with (h | h) | h
    · exact .inl (.inl h)
    · exact .inr h
    · exact .inl (.inr h)
  · rcases h with h | h
    · exact k.ns h
    · have := (hv.lt s h).1; have := k.sw.lt; omega
theorem Sk.add (k : Sk V w S x most seed R nn d s n i rd) (hn : nn ≤ 90000) (hR0 : 0 ≤ R) (hR : R ≤ 2147483000) (id : Nat) (hid : id ≤ 18446744073709551615) (v : Value) (ts : List (List UInt8)) (hv : Reads w v (ts.map encStr)) (ht : ts.length ≤ 1000) {d' : Dx} {ns : List Nat} {er : Int} (hx : d.add most id ts = (d', ns, er)) :
    Calls Try.prog 13 #[.pointer (some ⟨x, 0, none⟩), .int .u64 (id : Int), v] w (SkV V w S x most seed (R + 16) (nn + 16) d' s n i rd ns er) := k.liftv (k.kr.addv hn hR0 hR id hid v ts hv ht hx)
theorem Sk.drop (k : Sk V w S x most seed R nn d s n i rd) (hn : nn ≤ 100000) (hR : R ≤ 2147483647) (id : Nat) (hid : id ≤ 18446744073709551615) {d' : Dx} {ns : List Nat} {er : Int} (hx : d.drop id = (d', ns, er)) :
    Calls Try.prog 15 #[.pointer (some ⟨x, 0, none⟩), .int .u64 (id : Int)] w (SkV V w S x most seed R nn d' s n i rd ns er) := k.liftv (k.kr.dropv hn hR id hid hx)
theorem Sk.sizes (k : Sk V w S x most seed R nn d s n i rd) : Calls Try.prog 44 #[.pointer (some ⟨x, 0, none⟩)] w fun e w' => e = .returned (.tuple #[.int .i64 (d.sl.length : Int), .int .i64 (wrongX d.all d.sl : Int)]) ∧ Below w.heap.size w w' := by
  obtain ⟨tb, lb, sb, own, Rd, lm, sm, l0, hry⟩ := k.kr.ry
  exact rvsizes_any hry
/-- A new sweeper beside an index. -/
theorem Kr.sweeper {s0 : Nat} (k : Kr V w S x most seed R nn d) (h0 : w.heap.size = s0) : Sk V (w.alloc (.cells (swCs 0 0 0) 102)) S x most seed R nn d s0 0 0 0 := by
  subst h0
  exact ⟨k.alloc _, Blk.new _ _ _, k.bel.size, fun h => by obtain ⟨_, _, _, _, h3, _⟩ := k; exact Nat.lt_irrefl _ (h3 _ h)⟩
end
end Go.Proofs.Ytfpkeinknhijaaa
namespace Go.Proofs.Ytfpkeinknhijaaa
set_option linter.unusedVariables false
open Go.RowKit Go.Maps Go.Sort

def sk1 : Sst := swGo 3 exD 0 0 0 0
def sk2 : Sst := swGo 0 sk1.d 1 0 0 0
def sk3 : Sst := swGo 9 sk2.d 1 0 0 0
def sk4 : Sst := swGo 2 sk3.d 0 0 0 0
def sk5 : Sst := swGo 1 sk4.d 4 1 0 0
theorem sk1_is : (sk1.lk, sk1.gn, sk1.n, sk1.i, sk1.fin) = (3, 2, 1, 0, false) := by decide +kernel
theorem sk2_is : (sk2.lk, sk2.gn, sk2.n, sk2.i, sk2.fin) = (0, 0, 1, 0, false) := by decide +kernel
theorem sk3_is : (sk3.lk, sk3.gn, sk3.n, sk3.i, sk3.fin) = (3, 2, 0, 0, true) := by decide +kernel
theorem sk4_is : (sk4.lk, sk4.gn, sk4.n, sk4.i, sk4.fin) = (2, 0, 4, 1, false) := by decide +kernel
theorem sk5_is : (sk5.lk, sk5.gn, sk5.n, sk5.i, sk5.fin) = (0, 0, 0, 0, true) := by decide +kernel
theorem sk5_all : wrongX sk5.d.all sk5.d.sl = 0 ∧ sk5.d.sl.length ≤ 9 := by decide +kernel
section
variable {V w w' : World} {S : Nat → Prop} {x : Nat} {most seed R : Int} {nn : Nat} {d : Dx} {s n i rd : Nat}
theorem Sk.steps2 (k : Sk V w S x most seed R nn d s n i rd) (m : Nat) (hm : nn + m ≤ 100000) (hp : n < 65536) (hi : i ≤ 100001) (hrd : rd ≤ 1000000) {r : Sst} (hr : swGo m d n i 0 0 = r) {mi : Int} (hmi : mi = (m : Int)) {lk gn n' i' : Nat} {fin : Bool} (h : (r.lk, r.gn, r.n, r.i, r.fin) = (lk, gn, n', i', fin)) {lki gni : Int} (h1 : lki = (lk : Int)) (h2 : gni = (gn : Int)) {rd' nn' : Nat} (h3 : rd' = if fin = true then rd + 1 else rd) (h4 : nn' = nn + m) :
    Calls Try.prog 39 #[.pointer (some ⟨s, 0, none⟩), .pointer (some ⟨x, 0, none⟩), .int .i64 mi, .int .i64 lki, .int .i64 gni, .int .i64 0] w (SkP V w S x most seed R nn' r.d s n' i' rd') := by
  simp only [Prod.mk.injEq] at h
  obtain ⟨e1, e2, e3, e4, e5⟩ := h
  have := k.steps m hm hp hi hrd hr (mi := mi) (lk := lki) (gn := gni) hmi (by rw [h1, e1]) (by rw [h2, e2])
  rw [e3, e4, e5, ← h3, ← h4] at this
  exact this
end
set_option maxHeartbeats 4000000 in
set_option maxRecDepth 100000 in
theorem sknown_any (w0 : World) :
    Calls Try.prog 33 #[] w0 fun e w' => e = .returned (.bool true) ∧ Below w0.heap.size w0 w' := by
  go_enter Try.func33, Try.ntmps33
  go_wp2_with fail
  refine (example_any w0 w0 (Below.refl _ _)).mono ?_
  rintro e v0 ⟨x, rfl, k0⟩
  go_wp2_with (go_at_call 34; refine (swnew_any _).mono ?_; rintro e w1 ⟨rfl, rfl⟩)
  have s1 := k0.sweeper rfl
  obtain ⟨s, hs⟩ : ∃ s, v0.heap.size = s := ⟨_, rfl⟩
  rw [hs] at s1
  try rw [hs]
  generalize v0.alloc (.cells (swCs 0 0 0) 102) = v1 at *
  clear k0 hs
  refine (s1.steps2 3 (by decide) (by decide) (by decide) (by decide) (r := sk1) rfl rfl sk1_is rfl rfl (rd' := 0) rfl (nn' := 69) rfl).mono ?_
  rintro e v2 ⟨rfl, s2, _⟩
  clear s1
  go_wp2_with fail
  refine (s2.at_ rfl rfl rfl).mono ?_
  rintro e v3 ⟨rfl, s3, _⟩
  clear s2
  go_wp2_with fail
  refine (s3.steps2 0 (by decide) (by decide) (by decide) (by decide) (r := sk2) rfl rfl sk2_is rfl rfl (rd' := 0) rfl (nn' := 69) rfl).mono ?_
  rintro e v4 ⟨rfl, s4, _⟩
  clear s3
  go_wp2_with fail
  refine (s4.steps2 9 (by decide) (by decide) (by decide) (by decide) (r := sk3) rfl rfl sk3_is rfl rfl (rd' := 1) rfl (nn' := 78) rfl).mono ?_
  rintro e v5 ⟨rfl, s5, _⟩
  clear s4
  go_wp2_with fail
  refine (s5.at_ rfl rfl rfl).mono ?_
  rintro e v6 ⟨rfl, s6, _⟩
  clear s5
  go_wp2_with fail
  refine (s6.steps2 2 (by decide) (by decide) (by decide) (by decide) (r := sk4) rfl rfl sk4_is rfl rfl (rd' := 1) rfl (nn' := 80) rfl).mono ?_
  rintro e v7 ⟨rfl, s7, _⟩
  clear s6
  go_wp2_with fail
  refine (s7.at_ rfl rfl rfl).mono ?_
  rintro e v8 ⟨rfl, s8, _⟩
  clear s7
  go_wp2_with fail
  refine (s8.steps2 1 (by decide) (by decide) (by decide) (by decide) (r := sk5) rfl rfl sk5_is rfl rfl (rd' := 2) rfl (nn' := 81) rfl).mono ?_
  rintro e v9 ⟨rfl, s9, _⟩
  clear s8
  go_wp2_with fail
  refine (s9.at_ rfl rfl rfl).mono ?_
  rintro e v10 ⟨rfl, s10, _⟩
  clear s9
  go_wp2_with fail
  refine (s10.alls (by decide) (by rw [sk5_all.1]; rfl)).mono ?_
  rintro e v11 ⟨rfl, s11, _⟩
  clear s10
  go_wp2_with fail
  refine (s11.neg (by have := sk5_all.2; omega) (-1) (by decide)).mono ?_
  rintro e v12 ⟨rfl, s12, _⟩
  clear s11
  go_wp2_with fail
  refine (s12.none_ 1).mono ?_
  rintro e v13 ⟨rfl, s13, _⟩
  go_wp2_with fail
  go_ret
  exact ⟨rfl, s13.bel⟩
end Go.Proofs.Ytfpkeinknhijaaa
