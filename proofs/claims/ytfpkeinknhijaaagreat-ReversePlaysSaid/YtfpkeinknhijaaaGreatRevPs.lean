/- Layer 18's step: what it leaves. -/
import Derived.Test.YtfpkeinknhijaaaGreatRevM
import Derived.Test.YtfpkeinknhijaaaGreatRevY
import Derived.Test.YtfpkeinknhijaaaGreatOpenT
import Derived.Test.YtfpkeinknhijaaaGreatSlc
import Derived.Deep.AppendLies
namespace Go.Proofs.YtfpkeinknhijaaaGreat
set_option linter.unusedVariables false
open Go.RowKit Go.Maps Go.Sort

/-- What step leaves: the index that goes on, the document's, and what is kept. -/
def RStep (V w : World) (S P : Nat → Prop) (most seed R : Int) (n : Nat) (d : Dx) (e : Ending) (w' : World) : Prop :=
  ∃ (x' : Nat) (a' : Dp) (P' : Nat → Prop), e = .returned (.tuple #[.pointer (some ⟨x', 0, none⟩), dixV most d a', .bool true]) ∧ Kr V w' (fun g => S g ∨ P' g) x' most seed R n d ∧ Dix w' P' d a' ∧ (∀ g, P' g → P g ∨ w.heap.size ≤ g) ∧ Only (fun g => ¬ S g ∧ V.heap.size ≤ g) w w'
theorem act5 {w : World} {A0 : Nat} {t : TypeId} {v0 v1 v2 v3 v4 : Value} (h : Blk w A0 t #[v0, v1, v2, v3, v4]) : w.cell? ⟨A0, 0, none⟩ = some v0 ∧ w.cell? ⟨A0, 1, none⟩ = some v1 ∧ w.cell? ⟨A0, 2, none⟩ = some v2 ∧ w.cell? ⟨A0, 3, none⟩ = some v3 ∧ w.cell? ⟨A0, 4, none⟩ = some v4 :=
  ⟨(Blk.cell h 0).trans rfl, (Blk.cell h 1).trans rfl, (Blk.cell h 2).trans rfl, (Blk.cell h 3).trans rfl, (Blk.cell h 4).trans rfl⟩
theorem zer4 {w : World} {A0 : Nat} {t : TypeId} {v0 v1 v2 v3 : Value} (h : Blk w A0 t #[v0, v1, v2, v3]) : w.cell? ⟨A0, 0, none⟩ = some v0 ∧ w.cell? ⟨A0, 1, none⟩ = some v1 ∧ w.cell? ⟨A0, 2, none⟩ = some v2 ∧ w.cell? ⟨A0, 3, none⟩ = some v3 :=
  ⟨(Blk.cell h 0).trans rfl, (Blk.cell h 1).trans rfl, (Blk.cell h 2).trans rfl, (Blk.cell h 3).trans rfl⟩
theorem adds_len (most : Int) : ∀ (ts : List (List UInt8)) (l : Nms), (addsM most l ts).2.1.length ≤ ts.length
  | [], l => Nat.zero_le _
  | s :: r, l => by
    unfold addsM
    split
    · simp only [List.length_cons]
      have := adds_len most r (addM most l s).1
      omega
    · exact Nat.zero_le _
theorem add_len (most : Int) (d : Dx) (id : Nat) (ts : List (List UInt8)) {R : Int} (h : Iw most R d) (ht : ts.length ≤ 1000) : (d.add most id ts).2.1.length ≤ 16 := by
  unfold Dx.add
  split
  · exact Nat.zero_le _
  · rename_i hb
    have htb : tagsB ts = true := by
      cases hq : tagsB ts with
      | true => rfl
      | false => exact absurd (.inr hq) hb
    have h16 := (tagsB_is htb).2.2.1
    split
    · exact Nat.le_trans (adds_len most ts d.nm) h16
    · exact Nat.zero_le _
theorem own_lt {w : World} {B : Nat} {t : TypeId} {v : Value} {n : Nat} {xs : List Value} (h : w.ownsRow B t 1 v n xs) {g : Nat} (hg : v.ownBlock = some g) : B ≤ g ∧ g < w.heap.size := by
  rcases h.2 with ⟨rfl, -⟩ | ⟨g', cap, cur, rfl, hb, hc, -⟩
  · cases hg
  · cases hg
    refine ⟨hb, ?_⟩
    rcases Nat.lt_or_ge g' w.heap.size with hlt | hge
    · exact hlt
    · rw [Array.getElem?_eq_none hge] at hc; cases hc
theorem own_reads {w : World} {B : Nat} {t : TypeId} {v : Value} {ts : List (List UInt8)} (h : w.ownsRow B t 1 v ts.length (ts.map encStr)) (hl : ts.length ≤ 1000) : Reads w v (ts.map encStr) := by
  have h1 : w.ownsRow B t 1 v (ts.map encStr).length (ts.map encStr) := by rw [List.length_map]; exact h
  exact Reads.own_ h1 rfl (by rw [List.length_map]; omega)
theorem drop_len {most R : Int} {d : Dx} (h : Iw most R d) (id : Nat) : (d.drop id).2.1.length ≤ 16 := by
  unfold Dx.drop
  cases hg : getE d.all id with
  | none => exact Nat.zero_le _
  | some e => exact Nat.le_trans (relsM_len _ _) (h.numsLen (getE_some hg).1).2
theorem Kr.goU {V w w' : World} {S : Nat → Prop} {x : Nat} {most seed R : Int} {n : Nat} {d : Dx} (k : Kr V w S x most seed R n d) {U : Nat → Prop} (ho : Only U w w') (hU : ∀ g, U g → S g ∧ V.heap.size ≤ g) : Kr V w' S x most seed R n d := by
  obtain ⟨O, Rd, h1, h2, h3, h4⟩ := k
  exact ⟨O, Rd, h1.only ho (fun g hg h => (h2 g hg).2 (hU g h).1), h2, fun g hg => Nat.lt_of_lt_of_le (h3 g hg) ho.size, h4.trans (ho.below (fun g h => (hU g h).2) h4.size)⟩
/-- Inside step, ahead of the program's call. -/
structure Sq (V w W : World) (S P : Nat → Prop) (x : Nat) (most seed R : Int) (n : Nat) (d : Dx) (a : Dp) (X0 : Nat) (av : Array Value) : Prop where
  kr : Kr V W (fun g => S g ∨ (w.heap.size ≤ g ∧ g < W.heap.size)) x most seed R n d
  dx : Dix W P d a
  bx : Blk W X0 35 (dixCs most d a)
  ba : Blk W (X0 + 1) 38 av
  br : Blk W (X0 + 1 + 1) 35 zeroX
  hx : w.heap.size = X0
  sp : ∀ g, P g → S g
  ss : ∀ g, S g → g < w.heap.size
  vs : V.heap.size ≤ w.heap.size
  bel : Below w.heap.size w W
section
variable {V w W W' : World} {S P : Nat → Prop} {x : Nat} {most seed R : Int} {n : Nat} {d : Dx} {a : Dp} {X0 : Nat} {av : Array Value}
theorem Sq.grow (h : Sq V w W S P x most seed R n d a X0 av) (hb : Below W.heap.size W W') : Sq V w W' S P x most seed R n d a X0 av := by
  refine ⟨h.kr.keep hb (fun g hg => ?_), h.dx.below hb, h.bx.below hb h.bx.lt, h.ba.below hb h.ba.lt, h.br.below hb h.br.lt, h.hx, h.sp, h.ss, h.vs, h.bel.trans (hb.mono h.bel.size)⟩
  rcases hg with hg | hg
  · exact .inl (.inl hg)
  · by_cases h2 : g < W.heap.size
    · exact .inl (.inr ⟨hg.1, h2⟩)
    · exact .inr ⟨by omega, hg.2⟩
theorem Sq.start (k : Kr V w S x most seed R n d) (h : Dix w P d a) (hP : ∀ g, P g → S g) (av : Array Value) {X0 : Nat} (hX : w.heap.size = X0) :
    Sq V w (((w.alloc (.cells (dixCs most d a) 35)).alloc (.cells av 38)).alloc (.cells zeroX 35)) S P x most seed R n d a X0 av := by
  subst hX
  have hb : Below w.heap.size w (((w.alloc (.cells (dixCs most d a) 35)).alloc (.cells av 38)).alloc (.cells zeroX 35)) := (((Below.refl _ _).alloc (Nat.le_refl _) _).alloc (by simp) _).alloc (by simp; omega) _
  have hba := Blk.new (w.alloc (.cells (dixCs most d a) 35)) 38 av
  have hbr := Blk.new ((w.alloc (.cells (dixCs most d a) 35)).alloc (.cells av 38)) 35 zeroX
  rw [show (w.alloc (.cells (dixCs most d a) 35)).heap.size = w.heap.size + 1 by simp] at hba
  rw [show ((w.alloc (.cells (dixCs most d a) 35)).alloc (.cells av 38)).heap.size = w.heap.size + 2 by simp] at hbr
  have hk := k
  obtain ⟨O, Rd, -, -, h3, h4⟩ := k
  refine ⟨hk.keep hb (fun g hg => hg.imp (fun h => h) (fun h => h)), h.below hb, Blk.alloc (Blk.alloc (Blk.new _ _ _) _) _, Blk.alloc hba _, hbr, rfl, hP, h3, h4.size, hb⟩
/-- Behind the document's call: its result in the box T. -/
structure Sr (V w W : World) (S P : Nat → Prop) (lo B : Nat) (x : Nat) (most seed R : Int) (n : Nat) (d d' : Dx) (a' : Dp) (R0 T : Nat) : Prop where
  kr : Kr V W (fun g => S g ∨ (w.heap.size ≤ g ∧ g < B)) x most seed R n d
  dx : Dix W (fun g => P g ∨ (lo ≤ g ∧ g < B)) d' a'
  bt : Blk W T 35 (dixCs most d' a')
  br : Blk W R0 35 zeroX
  rb : w.heap.size ≤ R0 ∧ R0 < lo
  tb : lo ≤ T ∧ T < B
  lb : w.heap.size ≤ lo ∧ lo ≤ B
  sp : ∀ g, P g → S g
  ss : ∀ g, S g → g < w.heap.size
  vs : V.heap.size ≤ w.heap.size
  only : Only (fun g => ¬ S g ∧ V.heap.size ≤ g) w W
/-- The document's call, and its result in a new box. -/
theorem Sq.hold (h : Sq V w W S P x most seed R n d a X0 av) {w5 : World} (hb : Below W.heap.size W w5) {d' : Dx} {a' : Dp} (hd : Dix w5 (Nw W w5 P) d' a') {T : Nat} (hT : w5.heap.size = T) :
    Sr V w (w5.alloc (.cells (dixCs most d' a') 35)) S P W.heap.size (T + 1) x most seed R n d d' a' (X0 + 1 + 1) T := by
  subst hT
  have hal : Below w5.heap.size w5 (w5.alloc (.cells (dixCs most d' a') 35)) := (Below.refl _ _).alloc (Nat.le_refl _) _
  have hbb := hb.trans (hal.mono hb.size)
  have k := h.grow hbb
  have hbt : Blk (w5.alloc (.cells (dixCs most d' a') 35)) w5.heap.size 35 (dixCs most d' a') := Blk.new _ _ _
  have hsz : (w5.alloc (.cells (dixCs most d' a') 35)).heap.size = w5.heap.size + 1 := by simp
  have hrl := h.br.lt
  have hs1 := h.bel.size
  have hs2 := hb.size
  refine ⟨by have := k.kr; rw [hsz] at this; exact this, (hd.below hal).more (fun g hg => hg.imp (fun h => h) (fun h => ⟨h.1, by omega⟩)), hbt, k.br, ⟨by have := h.hx; omega, hrl⟩, ⟨hs2, by omega⟩, ⟨hs1, by omega⟩, h.sp, h.ss, h.vs, Only.of_below k.bel _⟩
theorem Sr.below {lo B : Nat} {d' : Dx} {a' : Dp} {R0 T : Nat} (h : Sr V w W S P lo B x most seed R n d d' a' R0 T) (hb : Below W.heap.size W W') : Sr V w W' S P lo B x most seed R n d d' a' R0 T :=
  ⟨h.kr.quiet hb, h.dx.below hb, h.bt.below hb h.bt.lt, h.br.below hb h.br.lt, h.rb, h.tb, h.lb, h.sp, h.ss, h.vs, h.only.trans (Only.of_below hb (fun _ => False)) (fun g h => h.elim)⟩
/-- The program's call. -/
theorem Sr.prog {lo B : Nat} {d' : Dx} {a' : Dp} {R0 T : Nat} (h : Sr V w W S P lo B x most seed R n d d' a' R0 T) {R' : Int} {n' : Nat} {d2 : Dx} {e : Ending} (hp : KrP V W (fun g => S g ∨ (w.heap.size ≤ g ∧ g < B)) x most seed R' n' d2 e W') :
    e = .returned (.bool true) ∧ Sr V w W' S P lo B x most seed R' n' d2 d' a' R0 T := by
  obtain ⟨rfl, k, ho⟩ := hp
  have hlb := h.lb
  have hrb := h.rb
  have htb := h.tb
  refine ⟨rfl, k, h.dx.only ho (fun g hg hs => hs.1 ?_), h.bt.only ho (fun hs => hs.1 (.inr ⟨by omega, by omega⟩)), h.br.only ho (fun hs => hs.1 (.inr ⟨by omega, by omega⟩)), h.rb, h.tb, h.lb, h.sp, h.ss, h.vs, h.only.trans ho (fun g hg => .inl ⟨fun hs => hg.1 (.inl hs), hg.2⟩)⟩
  rcases hg with hg | hg
  · exact .inl (h.sp g hg)
  · exact .inr ⟨by omega, hg.2⟩
/-- A block of the call's own is turned. -/
theorem Sr.own {lo B : Nat} {d' : Dx} {a' : Dp} {R0 T : Nat} (h : Sr V w W S P lo B x most seed R n d d' a' R0 T) {b : Nat} (hb : w.heap.size ≤ b ∧ b < lo ∧ b ≠ R0) (ho : Only (fun g => g = b) W W') : Sr V w W' S P lo B x most seed R n d d' a' R0 T := by
  have hlb := h.lb
  have htb := h.tb
  have hvs := h.vs
  refine ⟨h.kr.goU ho (fun g hg => ⟨.inr ⟨by omega, by omega⟩, by omega⟩), h.dx.only ho (fun g hg he => ?_), h.bt.only ho (by omega), h.br.only ho (fun he => hb.2.2 he.symm), h.rb, h.tb, h.lb, h.sp, h.ss, h.vs, h.only.trans ho (fun g hg => .inl ⟨fun hs => by have := h.ss g hs; omega, by omega⟩)⟩
  · rcases hg with hg | hg
    · have := h.ss g (h.sp g hg); omega
    · omega
/-- The result is stored and returned. -/
theorem Sr.fin {lo B : Nat} {a' : Dp} {R0 T : Nat} (h : Sr V w W S P lo B x most seed R n d d a' R0 T) : RStep V w S P most seed R n d (.returned (.tuple #[.pointer (some ⟨x, 0, none⟩), dixV most d a', .bool true])) (putX W R0 most d a') := by
  have ho := putX_only (w := W) (R := R0) most d a'
  have hlb := h.lb
  have hrb := h.rb
  have hvs := h.vs
  have k : Kr V (putX W R0 most d a') (fun g => S g ∨ (w.heap.size ≤ g ∧ g < B)) x most seed R n d := h.kr.goU ho (fun g hg => ⟨.inr ⟨by omega, by omega⟩, by omega⟩)
  refine ⟨x, a', _, rfl, k.less (fun g hg => ?_), h.dx.only ho (fun g hg he => ?_), fun g hg => hg.imp (fun h => h) (fun h => by omega), h.only.trans ho (fun g hg => .inl ⟨fun hs => by have := h.ss g hs; omega, by omega⟩)⟩
  · rcases hg with hg | hg | hg
    · exact .inl hg
    · exact .inl (h.sp g hg)
    · exact .inr ⟨by omega, hg.2⟩
  · rcases hg with hg | hg
    · have := h.ss g (h.sp g hg); omega
    · omega
/-- Inside step behind Copy: the copy c goes on, the left one x is turned. -/
structure Sc (V w wx : World) (S P : Nat → Prop) (c x : Nat) (most seed R : Int) (n : Nat) (R1 : Int) (n1 : Nat) (d : Dx) (a : Dp) (X0 B : Nat) : Prop where
  ry : ∃ O' Rd O Rd1 d1, Ri wx c most seed R n O' Rd d ∧ Ri wx x most seed R1 n1 O Rd1 d1 ∧ (∀ g, O' g ∨ Rd g → V.heap.size ≤ g ∧ ¬ (S g ∨ (w.heap.size ≤ g ∧ g < B))) ∧ ∀ g, O g → V.heap.size ≤ g ∧ ¬ (O' g ∨ Rd g) ∧ ¬ (S g ∨ (w.heap.size ≤ g ∧ g < B))
  dx : Dix wx P d a
  bx : Blk wx X0 35 (dixCs most d a)
  br : Blk wx (X0 + 1 + 1) 35 zeroX
  hx : w.heap.size = X0
  hb : X0 + 2 < B ∧ B ≤ wx.heap.size
  sp : ∀ g, P g → S g
  ss : ∀ g, S g → g < w.heap.size
  vs : V.heap.size ≤ w.heap.size
  bel : Below V.heap.size V wx
  only : Only (fun g => ¬ S g ∧ V.heap.size ≤ g) w wx
theorem Sq.copy (h : Sq V w W S P x most seed R n d a X0 av) (hn : n ≤ 100000) :
    Calls Tryz.prog 48 #[.pointer (some ⟨x, 0, none⟩)] W fun e w' => ∃ c, e = .returned (.pointer (some ⟨c, 0, none⟩)) ∧ Sc V w w' S P c x most seed R n R n d a X0 W.heap.size := by
  obtain ⟨O, Rd, h1, h2, h3, h4⟩ := h.kr
  refine (rcopy_any h1 hn).mono ?_
  rintro e w' ⟨c, O', rfl, hr, ho, hb⟩
  have hs1 := h.bel.size
  have hs2 := hb.size
  have hrl := h.br.lt
  have hvs := h.vs
  refine ⟨c, rfl, ⟨O', Rd, O, Rd, d, hr, h1.below hb, fun g hg => ?_, fun g hg => ?_⟩, h.dx.below hb, h.bx.below hb h.bx.lt, h.br.below hb hrl, h.hx, ⟨hrl, hs2⟩, h.sp, h.ss, h.vs, h4.trans (hb.mono h4.size), Only.of_below (h.bel.trans (hb.mono hs1)) _⟩
  · rcases hg with hg | hg
    · have := ho g hg
      refine ⟨by omega, fun hs => ?_⟩
      rcases hs with hs | hs
      · have := h.ss g hs; omega
      · omega
    · exact h2 g (.inr hg)
  · have hl := h1.lt (.inl hg)
    refine ⟨(h2 g (.inl hg)).1, fun hc => ?_, (h2 g (.inl hg)).2⟩
    rcases hc with hc | hc
    · have := ho g hc; omega
    · obtain ⟨tb, lb, sb, own, lm, sm, l0, k1, k2⟩ := h1
      exact (k2 g).1 hg (k1.rd g hc).1
theorem Sc.below {c : Nat} {R1 : Int} {n1 B : Nat} (h : Sc V w W S P c x most seed R n R1 n1 d a X0 B) (hb : Below W.heap.size W W') : Sc V w W' S P c x most seed R n R1 n1 d a X0 B := by
  obtain ⟨O', Rd, O, Rd1, d1, k1, k2, k3, k4⟩ := h.ry
  exact ⟨⟨O', Rd, O, Rd1, d1, k1.below hb, k2.below hb, k3, k4⟩, h.dx.below hb, h.bx.below hb h.bx.lt, h.br.below hb h.br.lt, h.hx, ⟨h.hb.1, Nat.le_trans h.hb.2 hb.size⟩, h.sp, h.ss, h.vs, h.bel.trans (hb.mono h.bel.size), h.only.trans (Only.of_below hb (fun _ => False)) (fun g h => h.elim)⟩
/-- A call on the left one. -/
theorem Sc.turn {c : Nat} {R1 R2 : Int} {n1 n2 B : Nat} {O' Rd O O2 Rd2 : Nat → Prop} {d2 : Dx} (h : Sc V w W S P c x most seed R n R1 n1 d a X0 B) (k1 : Ri W c most seed R n O' Rd d) (k3 : ∀ g, O' g ∨ Rd g → V.heap.size ≤ g ∧ ¬ (S g ∨ (w.heap.size ≤ g ∧ g < B))) (k4 : ∀ g, O g → V.heap.size ≤ g ∧ ¬ (O' g ∨ Rd g) ∧ ¬ (S g ∨ (w.heap.size ≤ g ∧ g < B)))
    (hr : Ri W' x most seed R2 n2 O2 Rd2 d2) (ho : Only O W W') (hnew : ∀ g, O2 g → O g ∨ W.heap.size ≤ g) : Sc V w W' S P c x most seed R n R2 n2 d a X0 B := by
  have hs := ho.size
  have hvs := h.vs
  have hbl := h.bel.size
  refine ⟨⟨O', Rd, O2, Rd2, d2, k1.only ho (fun g hg hO => (k4 g hO).2.1 hg), hr, k3, fun g hg => ?_⟩, h.dx.only ho (fun g hg hO => (k4 g hO).2.2 (.inl (h.sp g hg))), h.bx.only ho (fun hO => (k4 _ hO).2.2 (.inr ⟨by have := h.hx; omega, by have := h.hb; omega⟩)), h.br.only ho (fun hO => (k4 _ hO).2.2 (.inr ⟨by have := h.hx; omega, by have := h.hb; omega⟩)), h.hx, ⟨h.hb.1, Nat.le_trans h.hb.2 hs⟩, h.sp, h.ss, h.vs, h.bel.trans (ho.below (fun g hg => (k4 g hg).1) h.bel.size), h.only.trans ho (fun g hg => .inl ⟨fun hs => (k4 g hg).2.2 (.inl hs), (k4 g hg).1⟩)⟩
  rcases hnew g hg with hg | hg
  · exact k4 g hg
  · refine ⟨by omega, fun hc => ?_, fun hc => ?_⟩
    · have := k1.lt hc; omega
    · rcases hc with hc | hc
      · have := h.ss g hc; have := h.only.size; omega
      · have := h.hb; omega
theorem Sc.add {c : Nat} {R1 : Int} {n1 B : Nat} (h : Sc V w W S P c x most seed R n R1 n1 d a X0 B) (hn : n1 ≤ 90000) (hR0 : 0 ≤ R1) (hR : R1 ≤ 2147483000) (id : Nat) (idI : Int) (hI : idI = (id : Int)) (hid : id ≤ 18446744073709551615) (v : Value) (ts : List (List UInt8)) (hv : Reads W v (ts.map encStr)) (ht : ts.length ≤ 1000) :
    Calls Tryz.prog 41 #[.pointer (some ⟨x, 0, none⟩), .int .u64 idI, v] W fun e w' => ∃ v' er, e = .returned (.tuple #[v', .int .i64 er]) ∧ Sc V w w' S P c x most seed R n (R1 + 16) (n1 + 16) d a X0 B := by
  subst hI
  obtain ⟨O', Rd, O, Rd1, d1, k1, k2, k3, k4⟩ := h.ry
  refine (rvadd_any k2 hn hR0 hR id hid v ts hv ht).mono ?_
  rintro e w' ⟨v', O2, Rd2, rfl, -, hr, hg, -, -⟩
  exact ⟨v', _, rfl, h.turn k1 k3 k4 hr hg.only hg.new⟩
theorem Sc.drop {c : Nat} {R1 : Int} {n1 B : Nat} (h : Sc V w W S P c x most seed R n R1 n1 d a X0 B) (hn : n1 ≤ 100000) (hR : R1 ≤ 2147483647) (id : Nat) (idI : Int) (hI : idI = (id : Int)) (hid : id ≤ 18446744073709551615) :
    Calls Tryz.prog 45 #[.pointer (some ⟨x, 0, none⟩), .int .u64 idI] W fun e w' => ∃ v' er, e = .returned (.tuple #[v', .int .i64 er]) ∧ Sc V w w' S P c x most seed R n R1 n1 d a X0 B := by
  subst hI
  obtain ⟨O', Rd, O, Rd1, d1, k1, k2, k3, k4⟩ := h.ry
  refine (rvdrop_any k2 hn hR id hid).mono ?_
  rintro e w' ⟨v', O2, rfl, -, hr, hg, -⟩
  exact ⟨v', _, rfl, h.turn k1 k3 k4 hr hg.only hg.new⟩
theorem Sc.cut {c : Nat} {R1 : Int} {n1 B : Nat} (h : Sc V w W S P c x most seed R n R1 n1 d a X0 B) (hn : n1 ≤ 100000) (t i : Int) :
    Calls Tryz.prog 46 #[.pointer (some ⟨x, 0, none⟩), .int .i64 t, .int .i64 i] W fun e w' => ∃ b er, e = .returned (.tuple #[.bool b, .int .i64 er]) ∧ Sc V w w' S P c x most seed R n R1 (n1 + 1) d a X0 B := by
  obtain ⟨O', Rd, O, Rd1, d1, k1, k2, k3, k4⟩ := h.ry
  refine (rvcut_any k2 hn t i).mono ?_
  rintro e w' ⟨rfl, hr, ho⟩
  exact ⟨_, _, rfl, h.turn k1 k3 k4 hr ho (fun g hg => .inl hg)⟩
theorem Sc.fin {c : Nat} {R1 : Int} {n1 B : Nat} (h : Sc V w W S P c x most seed R n R1 n1 d a X0 B) : RStep V w S P most seed R n d (.returned (.tuple #[.pointer (some ⟨c, 0, none⟩), dixV most d a, .bool true])) (putX W (X0 + 1 + 1) most d a) := by
  have ho := putX_only (w := W) (R := X0 + 1 + 1) most d a
  have hb := h.hb
  have hx := h.hx
  have hvs := h.vs
  obtain ⟨O', Rd, O, Rd1, d1, k1, k2, k3, k4⟩ := h.ry
  refine ⟨c, a, P, rfl, ⟨O', Rd, k1.only ho (fun g hg he => (k3 g hg).2 (.inr ⟨by omega, by omega⟩)), fun g hg => ⟨(k3 g hg).1, fun hs => (k3 g hg).2 (.inl (hs.elim (fun h => h) (h.sp g)))⟩, fun g hg => ?_, h.bel.trans (ho.below (fun g hg => by omega) h.bel.size)⟩, h.dx.only ho (fun g hg he => by have := h.ss g (h.sp g hg); omega), fun g hg => .inl hg, h.only.trans ho (fun g hg => .inl ⟨fun hs => by have := h.ss g hs; omega, by omega⟩)⟩
  have h5 : g < w.heap.size := h.ss g (hg.elim (fun h => h) (h.sp g))
  have := h.only.size
  have := ho.size
  omega
theorem RStep.drew {e : Ending} {w' : World} (h : RStep V w S P most seed R n d e w') : RStep V w S P most seed R n d e w'.drew := by
  obtain ⟨x', a', P', he, k, hd, hp, ho⟩ := h
  have hb : Below w'.heap.size w' w'.drew := (Below.refl _ _).drew
  exact ⟨x', a', P', he, k.quiet hb, hd.below hb, hp, ho.trans (Only.of_below hb (fun _ => False)) (fun g h => h.elim)⟩
end
end Go.Proofs.YtfpkeinknhijaaaGreat
