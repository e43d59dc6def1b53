/- What the laws' helpers ask of a book of the law's own; the chapter's examples. -/
import Derived.Test.YtnofpbhpnhbbpaaQuoF
import Derived.Test.YtnofpbhpnhbbpaaQuoG
import Derived.Deep.LoopGhost
namespace Go.Proofs.Ytnofpbhpnhbbpaa
set_option linter.unusedVariables false
open Go.RowKit Go.Maps Go.Sort

set_option maxHeartbeats 1000000 in
theorem names_any (u v : Value) (l : List (List UInt8)) (w : World) (hu : Reads w u (l.map encStr)) (hv : Reads w v (l.map encStr)) :
    Calls Try.prog 18 #[u, v] w fun e w' => e = .returned (.bool true) ∧ Below w.heap.size w w' := by
  obtain ⟨p, cp, rfl, hl, hu⟩ := hu
  obtain ⟨q, cq, rfl, _, hv⟩ := hv
  rw [List.length_map] at hu hv hl ⊢
  obtain ⟨N, hN⟩ : ∃ N, l.length = N := ⟨_, rfl⟩
  rw [hN] at hu hv hl ⊢
  rcases Nat.eq_zero_or_pos N with h0 | h0
  · subst h0
    clear hu hv hN hl
    go_enter Try.func18, Try.ntmps18
    go_wp2_with fail
    go_loopg [5] 0 (fun r i wr => r = 0 ∧ i = .int .i64 0 ∧ w = wr)
    case atStart => exact ⟨rfl, rfl, rfl⟩
    case round =>
      obtain ⟨_, rfl, rfl⟩ := hrel
      go_wp2_with fail
      go_ret
      exact ⟨rfl, Below.refl _ _⟩
  · rcases hu with h | ⟨b1, o1, rfl, hb1, hc1, hx1⟩
    · omega
    rcases hv with h | ⟨b2, o2, rfl, hb2, hc2, hx2⟩
    · omega
    have HN := Lib.hid hN
    have HX1 := Lib.hid hx1
    have HX2 := Lib.hid hx2
    clear hN hx1 hx2
    go_enter Try.func18, Try.ntmps18
    go_wp2_with fail
    go_loopg [5] N (fun r i wr => ∃ k : Nat, k ≤ N ∧ r + k = N ∧ i = .int .i64 k ∧ Below w.heap.size w wr)
    case atStart => exact ⟨0, by omega, by omega, rfl, Below.refl _ _⟩
    case round =>
      obtain ⟨k, hk, hr, rfl, hb⟩ := hrel
      have HR := Lib.hid hr
      have HB := Lib.hid hb
      clear hr
      by_cases hlt : k < N
      · have hg : l[k]? = some (l[k]'(by have := HN.out; omega)) := List.getElem?_eq_getElem _
        obtain ⟨X, hX⟩ : ∃ X, l[k]? = some X := ⟨_, hg⟩
        have hm : (l.map encStr)[k]? = some (encStr X) := by rw [List.getElem?_map, hX]; rfl
        have c1 := (hb.cell (p := ⟨b1, o1 + k, none⟩) hb1).trans (HX1.out k _ hm)
        have c2 := (hb.cell (p := ⟨b2, o2 + k, none⟩) hb2).trans (HX2.out k _ hm)
        unfold encStr at c1 c2
        clear hb hg hX hm
        generalize (⟨X.toArray⟩ : ByteArray) = S at *
        go_wp2_with fail
        go_quiet (fail)
        go_wp2_with fail
        go_roundg (gk - 1)
        case measure => have := HR.out; omega
        case rel => exact ⟨k + 1, by omega, by have := HR.out; omega, by go_num, below_drewN HB.out _⟩
      · obtain rfl : k = N := by omega
        clear hb
        go_wp2_with fail
        go_ret
        exact ⟨rfl, HB.out⟩

/-- A book of the law's own. -/
def Kq (V w : World) (g n : Nat) (r : Rl) (now : Nat) (m : List (List UInt8 × Acc)) : Prop := ∃ b, Qb w g b n r now m ∧ V.heap.size ≤ g ∧ V.heap.size ≤ b ∧ Below V.heap.size V w
section
variable {V w w' : World} {g n : Nat} {r : Rl} {now : Nat} {m : List (List UInt8 × Acc)}
theorem Kq.quiet (k : Kq V w g n r now m) (h : Below w.heap.size w w') : Kq V w' g n r now m := by
  obtain ⟨b, h1, h2, h3, h4⟩ := k
  exact ⟨b, h1.below h, h2, h3, h4.trans (h.mono h4.size)⟩
theorem Kq.bel (k : Kq V w g n r now m) : Below V.heap.size V w := by
  obtain ⟨b, h1, h2, h3, h4⟩ := k
  exact h4
theorem Kq.apart (k : Kq V w g n r now m) : Apart m := by
  obtain ⟨b, h1, _⟩ := k
  exact h1.apart
theorem Kq.len (k : Kq V w g n r now m) : m.length ≤ n := by
  obtain ⟨b, h1, _⟩ := k
  exact h1.mp.size
theorem Kq.ask (h : Kq V w g n r now m) (hr : RlOk r) (t : Nat) (s : ByteArray) (k : Nat) (hs : s.size ≤ 140737488355328) (ht : max now t ≤ 9223372036854775808) (hm : mayE t s.data.toList k = 0) (hn : n ≤ 1000000) :
    Calls Try.prog 9 #[.pointer (some ⟨g, 0, none⟩), .int .u64 (t : Int), .string s, .int .i64 (k : Int)] w fun e w' => e = .returned (.tuple #[.bool (askM r (max now t) m s.data.toList k).1, .int .i64 (askM r (max now t) m s.data.toList k).2.1]) ∧ Kq V w' g (n + 1) r (max now t) (askM r (max now t) m s.data.toList k).2.2 := by
  obtain ⟨b, h1, h2, h3, h4⟩ := h
  refine (ask_ok g b n r now m hr t s k hs ht w h1 hm hn).mono ?_
  rintro e w' ⟨rfl, q1, q2⟩
  exact ⟨rfl, b, q1, h2, h3, h4.trans (q2.below (fun i hi => by rcases hi with rfl | rfl <;> assumption) h4.size)⟩
theorem Kq.clients (h : Kq V w g n r now m) (hr : RlOk r) (ht : now ≤ 9223372036854775808) (hn : n ≤ 1000000) :
    Calls Try.prog 10 #[.pointer (some ⟨g, 0, none⟩)] w fun e w' => ∃ v, e = .returned v ∧ Reads w' v ((clients r.P now m).map encStr) ∧ Kq V w' g n r now (tidyM r.P now m) := by
  obtain ⟨b, h1, h2, h3, h4⟩ := h
  refine (clients_any g b n r now m hr ht (Nat.le_trans h1.mp.size hn) w h1).mono ?_
  rintro e w' ⟨v, rfl, q1, q2, q3⟩
  exact ⟨v, rfl, q1, b, q2, h2, h3, h4.trans (q3.below (fun i hi => by rcases hi with rfl | rfl <;> assumption) h4.size)⟩
set_option maxHeartbeats 1000000 in
theorem Kq.asks (h : Kq V w g n r now m) (hr : RlOk r) (t : Nat) (s : ByteArray) (k : Nat) (want : Bool) (m' : List (List UInt8 × Acc)) (hx : askM r (max now t) m s.data.toList k = (want, 0, m')) (hs : s.size ≤ 140737488355328) (ht : max now t ≤ 9223372036854775808) (hm : mayE t s.data.toList k = 0) (hn : n ≤ 1000000) :
    Calls Try.prog 16 #[.pointer (some ⟨g, 0, none⟩), .int .u64 (t : Int), .string s, .int .i64 (k : Int), .bool want] w fun e w' => e = .returned (.bool true) ∧ Kq V w' g (n + 1) r (max now t) m' := by
  have H := h.ask hr t s k hs ht hm hn
  rw [hx] at H
  have H := Lib.hid H
  clear h hx hm
  go_enter Try.func16, Try.ntmps16
  go_wp2_with (go_at_call 9; refine H.out.mono ?_; rintro e w1 ⟨rfl, h1⟩)
  cases want <;>
  · go_wp2_with fail
    go_ret
    exact ⟨rfl, h1⟩
set_option maxHeartbeats 1000000 in
set_option maxRecDepth 100000 in
theorem Kq.left (h : Kq V w g n r now m) (hr : RlOk r) (t : Nat) (s : ByteArray) (x y : Int) (hx : leftA r.C (used0 r.P (mget accZ m s.data.toList) (max now t)) = x) (hy : leftA r.B (used1 r.P (mget accZ m s.data.toList) (max now t)) = y) (hs : s.size ≤ 140737488355328) (ht : max now t ≤ 9223372036854775808) (hm : mayE t s.data.toList 0 = 0) :
    Calls Try.prog 20 #[.pointer (some ⟨g, 0, none⟩), .int .u64 (t : Int), .string s, .int .i64 x, .int .i64 y] w fun e w' => e = .returned (.bool true) ∧ Kq V w' g n r now m := by
  have hk := Lib.hid h
  obtain ⟨b, h1, h2, h3, h4⟩ := h
  have H := left_ok g b n r now m hr t s hs ht w h1 hm
  rw [hx, hy] at H
  have H := Lib.hid H
  clear h1 h2 h3 h4 hx hy hm
  go_enter Try.func20, Try.ntmps20
  go_wp2_with (go_at_call 13; refine H.out.mono ?_; rintro e w1 ⟨rfl, hb⟩)
  go_ret
  exact ⟨rfl, hk.out.quiet hb⟩
theorem WaitP.unique {a : Acc} {tt x y : Nat} {k : Int} (hP : 1 ≤ r.P) (hw : a.w ≤ tt / r.P) (h1 : WaitP r a tt k x) (h2 : WaitP r a tt k y) : x = y := by
  have key : ∀ {x y : Nat}, WaitP r a tt k x → WaitP r a tt k y → ¬ x < y := fun {x y} h1 h2 hlt => by
    rcases h2.no with e | ⟨_, e⟩
    · have := h1.lo; omega
    · have := allows_mono (r := r) (k := k) hP (Nat.le_trans hw (Nat.div_le_div_right h1.lo)) (show x ≤ y - 1 by omega) h1.yes
      rw [this] at e
      cases e
  have := key h1 h2
  have := key h2 h1
  omega
set_option maxHeartbeats 1000000 in
set_option maxRecDepth 100000 in
theorem Kq.waits (h : Kq V w g n r now m) (hr : RlOk r) (t : Nat) (s : ByteArray) (k : Int) (x : Nat) (hx : WaitP r (mget accZ m s.data.toList) (max now t) k x) (hxs : x ≤ 4611686018427387904) (hs : s.size ≤ 140737488355328) (ht : max now t ≤ 4611686018427387904) (hm : mayE t s.data.toList k = 0) (hv : neverB r k = false) (hw : (mget accZ m s.data.toList).w ≤ max now t / r.P) :
    Calls Try.prog 21 #[.pointer (some ⟨g, 0, none⟩), .int .u64 (t : Int), .string s, .int .i64 k, .int .u64 (x : Int)] w fun e w' => e = .returned (.bool true) ∧ Kq V w' g n r now m := by
  have hk := Lib.hid h
  obtain ⟨b, h1, h2, h3, h4⟩ := h
  have H : Calls Try.prog 14 #[.pointer (some ⟨g, 0, none⟩), .int .u64 (t : Int), .string s, .int .i64 k] w fun e w' => e = .returned (.tuple #[.int .u64 (x : Int), .int .i64 0]) ∧ Below w.heap.size w w' := by
    refine (wait_ok g b n r now m hr t s k hs ht w h1 hm hv hw).mono ?_
    rintro e w' ⟨y, rfl, q1, q2⟩
    have := WaitP.unique hr.P hw q1 hx
    subst this
    exact ⟨by rw [show waitV y = y from if_neg (by omega)], q2⟩
  have H := Lib.hid H
  clear h1 h2 h3 h4 hx hv hm hw
  go_enter Try.func21, Try.ntmps21
  go_wp2_with (go_at_call 14; refine H.out.mono ?_; rintro e w1 ⟨rfl, hb⟩)
  go_ret
  exact ⟨rfl, hk.out.quiet hb⟩
set_option maxHeartbeats 1000000 in
set_option maxRecDepth 100000 in
theorem Kq.waitn (h : Kq V w g n r now m) (t : Nat) (s : ByteArray) (k : Int) (hs : s.size ≤ 140737488355328) (hm : mayE t s.data.toList k = 0) (hv : neverB r k = true) :
    Calls Try.prog 21 #[.pointer (some ⟨g, 0, none⟩), .int .u64 (t : Int), .string s, .int .i64 k, .int .u64 18446744073709551615] w fun e w' => e = .returned (.bool true) ∧ Kq V w' g n r now m := by
  have hk := Lib.hid h
  obtain ⟨b, h1, h2, h3, h4⟩ := h
  have H := Lib.hid (wait_never g b n r now m t s k hs w h1 hm hv)
  clear h1 h2 h3 h4 hv hm
  go_enter Try.func21, Try.ntmps21
  go_wp2_with (go_at_call 14; refine H.out.mono ?_; rintro e w1 ⟨rfl, rfl⟩)
  go_ret
  exact ⟨rfl, hk.out⟩
end
theorem Kq.start (V w : World) (hV : Below V.heap.size V w) (r : Rl) (hr : RlOk r) :
    Calls Try.prog 8 #[.agg #[.int .u64 (r.P : Int), .int .i64 (r.C : Int), .int .i64 (r.B : Int)]] w fun e w' => ∃ g, e = .returned (.tuple #[.pointer (some ⟨g, 0, none⟩), .int .i64 0]) ∧ Kq V w' g 0 r 0 [] := by
  refine (new_ok r hr w).mono ?_
  rintro e w' ⟨g, b, rfl, h1, h2, h3, h4⟩
  exact ⟨g, rfl, b, h1, Nat.le_trans hV.size h2, Nat.le_trans hV.size h3, hV.trans (h4.mono hV.size)⟩
theorem owns_of_block {w : World} {B g n cap : Nat} {t : TypeId} {L xs : List Value} (hB : B ≤ g) (h : w.heap[g]? = some (.cells L.toArray t (0, 0))) (hL : L.length = cap) (hn : n ≤ cap) (hc : cap ≤ maxLen) (hx : L.take n = xs) : w.ownsRow B t 1 (.slice (some ⟨g, 0, none⟩) n cap) n xs := by
  refine ⟨by rw [← hx, List.length_take, hL, Nat.min_eq_left hn]; omega, .inr ⟨g, cap, L.toArray, rfl, hB, h, hn, hc, by simpa using hL, by simpa using hx⟩⟩
theorem clients_eq (P now : Nat) (m : List (List UInt8 × Acc)) : clients P now m = isortB (mkeys (tidyM P now m)) := isortB_is _
theorem reads_new (w : World) (l : List Value) (t : TypeId) (h : l.length ≤ 1000000) : Reads (w.alloc (.cells l.toArray t)) (.slice (some ⟨w.heap.size, 0, none⟩) l.length l.length) l :=
  Reads.of_own (base := 0) (e := t) (owns_of_block (Nat.zero_le _) (Blk.new w t l.toArray) rfl (Nat.le_refl _) (by unfold maxLen; omega) (List.take_length)) (by omega)
theorem rk_ok : RlOk ⟨10, 4, 100⟩ := ⟨by decide, by decide, by decide, by decide⟩
set_option maxHeartbeats 4000000 in
set_option maxRecDepth 100000 in
theorem known_any (w : World) :
    Calls Try.prog 7 #[] w fun e w' => e = .returned (.bool true) ∧ Below w.heap.size w w' := by
  go_enter Try.func7, Try.ntmps7
  go_wp2_with fail
  refine (Kq.start w w (Below.refl _ _) ⟨10, 4, 100⟩ rk_ok).mono ?_
  rintro e v0 ⟨g, rfl, s0⟩
  go_wp2_with fail
  refine (s0.asks rk_ok 3 ⟨#[97]⟩ 30 true [([97], ⟨0, 1, 30, 0, 0⟩)] (by kernel_rfl) (by decide) (by decide) (by kernel_rfl) (by decide)).mono ?_
  rintro e v1 ⟨rfl, s1⟩
  clear s0
  go_wp2_with fail
  refine (s1.asks rk_ok 3 ⟨#[97]⟩ 30 true [([97], ⟨0, 2, 60, 0, 0⟩)] (by kernel_rfl) (by decide) (by decide) (by kernel_rfl) (by decide)).mono ?_
  rintro e v2 ⟨rfl, s2⟩
  clear s1
  go_wp2_with fail
  refine (s2.asks rk_ok 4 ⟨#[97]⟩ 41 false [([97], ⟨0, 2, 60, 0, 0⟩)] (by kernel_rfl) (by decide) (by decide) (by kernel_rfl) (by decide)).mono ?_
  rintro e v3 ⟨rfl, s3⟩
  clear s2
  go_wp2_with fail
  refine (s3.asks rk_ok 4 ⟨#[97]⟩ 40 true [([97], ⟨0, 3, 100, 0, 0⟩)] (by kernel_rfl) (by decide) (by decide) (by kernel_rfl) (by decide)).mono ?_
  rintro e v4 ⟨rfl, s4⟩
  clear s3
  go_wp2_with fail
  refine (s4.asks rk_ok 5 ⟨#[97]⟩ 0 true [([97], ⟨0, 4, 100, 0, 0⟩)] (by kernel_rfl) (by decide) (by decide) (by kernel_rfl) (by decide)).mono ?_
  rintro e v5 ⟨rfl, s5⟩
  clear s4
  go_wp2_with fail
  refine (s5.asks rk_ok 5 ⟨#[97]⟩ 0 false [([97], ⟨0, 4, 100, 0, 0⟩)] (by kernel_rfl) (by decide) (by decide) (by kernel_rfl) (by decide)).mono ?_
  rintro e v6 ⟨rfl, s6⟩
  clear s5
  go_wp2_with fail
  refine (s6.left rk_ok 9 ⟨#[97]⟩ 0 0 (by kernel_rfl) (by kernel_rfl) (by decide) (by decide) (by kernel_rfl)).mono ?_
  rintro e v7 ⟨rfl, s7⟩
  clear s6
  go_wp2_with fail
  refine (s7.left rk_ok 10 ⟨#[97]⟩ 0 0 (by kernel_rfl) (by kernel_rfl) (by decide) (by decide) (by kernel_rfl)).mono ?_
  rintro e v8 ⟨rfl, s8⟩
  clear s7
  go_wp2_with fail
  refine (s8.left rk_ok 15 ⟨#[97]⟩ 2 50 (by kernel_rfl) (by kernel_rfl) (by decide) (by decide) (by kernel_rfl)).mono ?_
  rintro e v9 ⟨rfl, s9⟩
  clear s8
  go_wp2_with fail
  refine (s9.waits rk_ok 9 ⟨#[97]⟩ 0 11 ⟨by decide, by decide, by kernel_rfl, .inr ⟨by decide, by kernel_rfl⟩⟩ (by decide) (by decide) (by decide) (by kernel_rfl) (by kernel_rfl) (by decide)).mono ?_
  rintro e v10 ⟨rfl, s10⟩
  clear s9
  go_wp2_with fail
  refine (s10.waits rk_ok 9 ⟨#[97]⟩ 60 16 ⟨by decide, by decide, by kernel_rfl, .inr ⟨by decide, by kernel_rfl⟩⟩ (by decide) (by decide) (by decide) (by kernel_rfl) (by kernel_rfl) (by decide)).mono ?_
  rintro e v11 ⟨rfl, s11⟩
  clear s10
  go_wp2_with fail
  refine (s11.waitn 9 ⟨#[97]⟩ 101 (by decide) (by kernel_rfl) (by kernel_rfl)).mono ?_
  rintro e v12 ⟨rfl, s12⟩
  clear s11
  go_wp2_with fail
  refine (s12.asks rk_ok 12 ⟨#[97]⟩ 20 true [([97], ⟨1, 1, 20, 4, 100⟩)] (by kernel_rfl) (by decide) (by decide) (by kernel_rfl) (by decide)).mono ?_
  rintro e v13 ⟨rfl, s13⟩
  clear s12
  go_wp2_with fail
  refine (s13.left rk_ok 12 ⟨#[97]⟩ 0 0 (by kernel_rfl) (by kernel_rfl) (by decide) (by decide) (by kernel_rfl)).mono ?_
  rintro e v14 ⟨rfl, s14⟩
  clear s13
  go_wp2_with fail
  refine (s14.clients rk_ok (by decide) (by decide)).mono ?_
  rintro e u14 ⟨v, rfl, q, s⟩
  rw [show clients _ _ _ = [[97]] from (clients_eq _ _ _).trans (by decide +kernel)] at q
  have Q := Lib.hid q
  clear q s14
  go_wp2_with fail
  refine (names_any _ _ [[97]] _ (Reads.below (Q.out : Reads u14 v ([[97]].map encStr)) ((Below.refl _ _).alloc (Nat.le_refl _) _)) (reads_new u14 ([[97]].map encStr) 9 (by decide))).mono ?_
  rintro e v15 ⟨rfl, b⟩
  have s15 : Kq w v15 g _ ⟨10, 4, 100⟩ 12 [([97], ⟨1, 1, 20, 4, 100⟩)] := (s.quiet ((Below.refl _ _).alloc (Nat.le_refl _) _)).quiet b
  clear s b Q
  go_wp2_with fail
  refine (s15.asks rk_ok 31 ⟨#[98]⟩ 1 true [([98], ⟨3, 1, 1, 0, 0⟩)] (by kernel_rfl) (by decide) (by decide) (by kernel_rfl) (by decide)).mono ?_
  rintro e v16 ⟨rfl, s16⟩
  clear s15
  go_wp2_with fail
  refine (s16.clients rk_ok (by decide) (by decide)).mono ?_
  rintro e u16 ⟨v, rfl, q, s⟩
  rw [show clients _ _ _ = [[98]] from (clients_eq _ _ _).trans (by decide +kernel)] at q
  have Q := Lib.hid q
  clear q s16
  go_wp2_with fail
  refine (names_any _ _ [[98]] _ (Reads.below (Q.out : Reads u16 v ([[98]].map encStr)) ((Below.refl _ _).alloc (Nat.le_refl _) _)) (reads_new u16 ([[98]].map encStr) 9 (by decide))).mono ?_
  rintro e v17 ⟨rfl, b⟩
  have s17 : Kq w v17 g _ ⟨10, 4, 100⟩ 31 [([98], ⟨3, 1, 1, 0, 0⟩)] := (s.quiet ((Below.refl _ _).alloc (Nat.le_refl _) _)).quiet b
  clear s b Q
  go_wp2_with fail
  go_ret
  exact ⟨rfl, s17.bel⟩
end Go.Proofs.Ytnofpbhpnhbbpaa
