/- Growing: twice as many heads. -/
import Derived.Test.YthngkimncdpekaaIntU
import Derived.Test.YthngkimncdpekaaRepeat
namespace Go.Proofs.Ythngkimncdpekaa
set_option linter.unusedVariables false
open Go.RowKit Go.Maps Go.Sort

theorem Chains.skip {hs : List UInt8 → Nat} {hd nx : List Int} {l : Nms} {ch : Nat → List Nat} {k : Nat} (h : Chains hs hd nx l ch (fun m => m < k)) (hk : liveB l k = false) : Chains hs hd nx l ch (fun m => m < k + 1) :=
  h.congr (fun n hn => ⟨fun h => by omega, fun h => by
    rcases Nat.lt_or_ge n k with h1 | h1
    · exact h1
    · obtain rfl : n = k := by omega
      rw [hk] at hn; cases hn⟩)
theorem Chains.next {hs : List UInt8 → Nat} {hd nx : List Int} {l : Nms} {ch : Nat → List Nat} {k : Nat} (h : Chains hs hd nx l ch (fun m => m < k)) (hk : liveB l k = true) {i : Nat} (hi : hs (nmAt l k).1 % hd.length = i) :
    Chains hs (hd.set i k) (nx.set k (hd.getD i 0)) l (fun j => if j = i then k :: ch i else ch j) (fun m => m < k + 1) :=
  (h.push hk (Nat.lt_irrefl k) hi).congr (fun n _ => ⟨fun h => by omega, fun h => by omega⟩)

section
variable {w : World} {b : Nat} {most seed : Int} {hb hc : Nat} {lv fv : Value} {hd nx : List Int} {l : Nms} {fr : List Int} {many : Int}
theorem Tb.thaw (t : Tb w b most seed hb hc lv fv hd nx l fr many) (o : Nat) : w.frozen? ⟨b, o, none⟩ = false ∧ w.frozen? ⟨hb, o, none⟩ = false := ⟨Blk.frozen t.box o, t.heads.frozenAt o⟩
theorem Tb.thawl {g cap : Nat} (t : Tb w b most seed hb hc (.slice (some ⟨g, 0, none⟩) l.length cap) fv hd nx l fr many) (o : Nat) : w.frozen? ⟨g, o, none⟩ = false := t.list.frozenAt o
/-- New heads. -/
theorem Tb.newHeads (t : Tb w b most seed hb hc lv fv hd nx l fr many) {w' : World} (hb' N : Nat) (hB : Below w.heap.size w w') (hge : w.heap.size ≤ hb') (hN : 0 < N) (hN2 : N ≤ 1000000) (hg : w'.heap[hb']? = some (.cells ((List.replicate N (-1)).map (Value.int .i64)).toArray 3 (0, 0))) :
    Tb (w'.setCell ⟨b, 2, none⟩ (.slice (some ⟨hb', 0, none⟩) N N)) b most seed hb' N lv fv (List.replicate N (-1)) nx l fr many := by
  have t' := t.below hB
  have hbl : b < w.heap.size := t.box.lt
  have hb1 : b ≠ hb' := by omega
  have hl1 : lv.ownBlock ≠ some hb' := fun e => by have := ownsRow_lt t.list e; omega
  have hf1 : fv.ownBlock ≠ some hb' := fun e => by have := t.fl _ e; omega
  have hm : N ≤ maxLen := by unfold maxLen; omega
  have hown : w'.ownsRow 0 3 1 (.slice (some ⟨hb', 0, none⟩) N N) N (i64s (List.replicate N (-1))) := by
    refine ⟨by simp, .inr ⟨hb', N, _, rfl, Nat.zero_le _, hg, Nat.le_refl _, hm, by simp, ?_⟩⟩
    simp
  have hbox := Blk.set_ t'.box 2 (.slice (some ⟨hb', 0, none⟩) N N)
  have hlen : (List.replicate N (-1 : Int)).length = N := by simp
  refine ⟨?_, ?_, owns_set t'.list t'.bl 2 _, reads_set t'.free t'.bf 2 _, t'.len, by rw [hlen]; exact hN, by rw [hlen]; exact hN2, t'.low, hb1, t'.bl, hl1, t'.bf, hf1, t'.lf, t'.seed0, t'.seed1, fun g hg => by simpa [World.setCell] using t'.fl g hg⟩
  · rw [hlen]; exact hbox
  · rw [hlen]; exact owns_set hown (fun e => hb1 (by simp [Value.ownBlock] at e; exact e.symm)) 2 _
end
set_option maxHeartbeats 4000000 in
set_option maxRecDepth 100000 in
theorem grow_any {w : World} {b : Nat} {most seed : Int} {hb hc g cap : Nat} {fv : Value} {hd nx : List Int} {l : Nms} {fr : List Int} {many : Int} (t : Tb w b most seed hb hc (.slice (some ⟨g, 0, none⟩) l.length cap) fv hd nx l fr many)
    (hH : hd.length ≤ 200000) (htx : ∀ n, liveB l n = true → (nmAt l n).1.length ≤ 64) :
    Calls Try.prog 87 #[.pointer (some ⟨b, 0, none⟩)] w fun e w' => e = .returned (.tuple #[]) ∧ ∃ hb' hc' hd' nx' ch', Tb w' b most seed hb' hc' (.slice (some ⟨g, 0, none⟩) l.length cap) fv hd' nx' l fr many ∧ Chains (hsN seed) hd' nx' l ch' (fun _ => True) ∧ hd'.length = 2 * hd.length ∧ w.heap.size ≤ hb' ∧ Only (inO b hb (.slice (some ⟨g, 0, none⟩) l.length cap) fv) w w' := by
  obtain ⟨c0, c1, c2, c3, c4, c5⟩ := t.cells
  have T := Lib.hid t
  have HTX := Lib.hid htx
  obtain ⟨H, hHd⟩ : ∃ H, hd.length = H := ⟨_, rfl⟩
  have hpos : 0 < H := hHd ▸ t.pos
  rw [hHd] at c2 hH
  have HHD := Lib.hid hHd
  have hbl : b < w.heap.size := t.box.lt
  have hfz := (t.thaw 2).1
  clear t htx hHd
  go_enter Try.func87, Try.ntmps87
  go_wp2_with fail
  have hB0 : Below w.heap.size w (w.alloc (.cells #[.int .i64 (-1)] 3)) := (Below.refl _ _).alloc (Nat.le_refl _) _
  rw [show (2 * (H : Int)) = ((2 * H : Nat) : Int) by omega]
  refine (repeat_any w.heap.size 1 (-1) (2 * H) (by omega) (by omega) _ (by simp) (by simp)).mono ?_
  rintro e w1 ⟨rfl, hg1, b1⟩
  have hB1 : Below w.heap.size w w1 := hB0.trans (b1.mono (by simp))
  have hs0 : (w.alloc (.cells #[.int .i64 (-1)] 3)).heap.size = w.heap.size + 1 := by simp
  rw [hs0] at hg1 b1 ⊢
  have hfz1 : w1.frozen? ⟨b, 2, none⟩ = false := (hB1.frozen (p := ⟨b, 2, none⟩) hbl).trans hfz
  have t2 := T.out.newHeads (w.heap.size + 1) (2 * H) hB1 (by omega) (by omega) (by omega) hg1
  have T2 := Lib.hid t2
  obtain ⟨hb', hhb⟩ : ∃ hb', w.heap.size + 1 = hb' := ⟨_, rfl⟩
  have hge : w.heap.size ≤ hb' := by omega
  have HCH := Lib.hid (Chains.fresh (hsN seed) (H := 2 * H) (by omega) T.out.len)
  have O2 : Hid (Only (inO b hb (.slice (some ⟨g, 0, none⟩) l.length cap) fv) w (w1.setCell ⟨b, 2, none⟩ (.slice (some ⟨hb', 0, none⟩) (2 * H) (2 * H)))) := (Only.of_below hB1 _).setCell1 (.inl (.inl rfl)) _ _
  rw [hhb] at T2
  simp only [hhb]
  obtain ⟨k0, k1, k2, k3, k4, k5⟩ := (T.out.below hB1).cells
  clear hB0 hs0 hg1 b1 hB1 hfz t2 hhb c0 c1 c2 c3 c4 c5 k0 k1 k4 k5
  go_wp2_with fail
  clear k2 k3 hfz1
  generalize w1.setCell ⟨b, 2, none⟩ (.slice (some ⟨hb', 0, none⟩) (2 * H) (2 * H)) = W1 at *
  have hlow := T.out.low
  have hgl := T.out.list.form
  have hL := T.out.list
  go_loopg [21] l.length (fun r i wr => ∃ (k : Nat) (hd2 nx2 : List Int) (ch2 : Nat → List Nat), k ≤ l.length ∧ r + k = l.length ∧ i = .int .i64 k ∧ hd2.length = 2 * H ∧ Tb wr b most seed hb' (2 * H) (.slice (some ⟨g, 0, none⟩) l.length cap) fv hd2 nx2 l fr many ∧ Chains (hsN seed) hd2 nx2 l ch2 (fun m => m < k) ∧ Only (inO b hb (.slice (some ⟨g, 0, none⟩) l.length cap) fv) w wr)
  case atStart => exact ⟨0, _, nx, _, by omega, by omega, rfl, by simp, T2.out, HCH.out.congr (fun n _ => ⟨fun h => h.elim, fun h => absurd h (Nat.not_lt_zero _)⟩), O2.out⟩
  case round =>
    clear T2 HCH O2 hgl hL
    obtain ⟨k, hd2, nx2, ch2, hk, hr, rfl, hlen, t3, hch, hO⟩ := hrel
    have HR : Hid (gk + k = l.length) := hr
    have HLEN := Lib.hid hlen
    have T3 := Lib.hid t3
    have HCH := Lib.hid hch
    have HO := Lib.hid hO
    clear hr hlen hch hO
    by_cases hlt : k < l.length
    · obtain ⟨c0, c1, c2, c3, c4, c5⟩ := t3.cells
      obtain ⟨n0, n1, n2⟩ := t3.names hlt
      clear t3
      rcases Bool.eq_false_or_eq_true (liveB l k) with hv | hv
      · have hpos2 : 0 < (nmAt l k).2 := by unfold liveB at hv; simpa using hv
        have hsz := HTX.out k hv
        have HV := Lib.hid hv
        have HH := Lib.hid (head_any T3.out ⟨(nmAt l k).1.toArray⟩ (by show (nmAt l k).1.toArray.size ≤ _; simp; omega))
        have hi := hs_lt T3.out.pos seed (nmAt l k).1
        obtain ⟨i, hie⟩ : ∃ i, hsN seed (nmAt l k).1 % hd2.length = i := ⟨_, rfl⟩
        have HI := Lib.hid hie
        simp only [hie] at HH hi
        generalize (⟨(nmAt l k).1.toArray⟩ : ByteArray) = S at *
        clear hv hie hsz c0 c1 c2 c4 c5
        go_wp2_with fail
        refine HH.out.mono ?_
        rintro e w5 ⟨rfl, b5⟩
        have T5 := Lib.hid (T3.out.below b5)
        have O5 := Lib.hid (HO.out.trans (Only.of_below b5 (fun _ => False)) (fun _ h => h.elim))
        obtain ⟨m0, m1, m2⟩ := T5.out.names hlt
        have hhd := T5.out.head hi
        have hfz := T5.out.thawl (k * 3 + 2)
        have hfz2 := (T5.out.thaw i).2
        have hgh : g ≠ hb' := fun e => T5.out.hl (by rw [e]; rfl)
        have T6 := Lib.hid ((T5.out.setNext hlt (hd2.getD i 0)).setHead i k)
        have HC2 := Lib.hid (HCH.out.next HV.out HI.out)
        have O6 := Lib.hid ((O5.out.setCell1 (g := g) (.inl (.inr (.inr (.inl rfl)))) (k * 3 + 2) (.int .i64 (hd2.getD i 0))).setCell1 (g := hb') (.inr hge) i (.int .i64 (k : Int)))
        generalize hd2.getD i 0 = X at *
        clear HH n0 n1 n2 c3 T3 T5 HO O5 b5 HV HCH HI m0 m1
        go_wp2_with fail
        go_roundg (gk - 1)
        case measure => have := HR.out; omega
        case rel => exact ⟨k + 1, _, _, _, by omega, by have := HR.out; omega, by go_num, by rw [List.length_set]; exact HLEN.out, T6.out, HC2.out, O6.out⟩
      · have hn2 : ¬ 0 < (nmAt l k).2 := by unfold liveB at hv; simpa using hv
        have HC2 := Lib.hid (HCH.out.skip hv)
        clear hv c0 c1 c2 c4 c5 n0 n2
        go_wp2_with fail
        go_roundg (gk - 1)
        case measure => have := HR.out; omega
        case rel => exact ⟨k + 1, hd2, nx2, ch2, by omega, by have := HR.out; omega, by go_num, HLEN.out, T3.out, HC2.out, HO.out⟩
    · obtain rfl : k = l.length := by omega
      have HC2 : Hid (Chains (hsN seed) hd2 nx2 l ch2 (fun _ => True)) := HCH.out.congr (fun n hn => ⟨fun _ => trivial, fun _ => live_lt hn⟩)
      clear HCH t3
      go_wp2_with fail
      refine bodyPost_end (results_none Try.results87 _ _ _) rfl ?_
      exact ⟨rfl, hb', 2 * H, hd2, nx2, ch2, T3.out, HC2.out, by rw [HLEN.out, HHD.out], hge, HO.out⟩
end Go.Proofs.Ythngkimncdpekaa
