/- The program's find, none, at; growing. -/
import Derived.Test.YthngkimncdpekaaIntT
import Derived.RegionTactic
import Derived.ChangeAlike
namespace Go.Proofs.Ythngkimncdpekaa
set_option linter.unusedVariables false
open Go.RowKit Go.Maps Go.Sort

theorem none_no {w : World} {b : Nat} {most : Int} (hc : w.cell? ⟨b, 0, none⟩ = some (.int .i64 most)) (hm : 1 ≤ most) :
    Calls Try.prog 84 #[.pointer (some ⟨b, 0, none⟩)] w fun e w' => e = .returned (.bool false) ∧ w = w' := by
  have h0 : (most == 0) = false := by rw [beq_eq_false_iff_ne]; omega
  go_enter Try.func84, Try.ntmps84
  go_wp2
  go_ret
  exact ⟨rfl, rfl⟩
theorem none_nil (w : World) :
    Calls Try.prog 84 #[.pointer none] w fun e w' => e = .returned (.bool true) ∧ w = w' := by
  go_enter Try.func84, Try.ntmps84
  go_wp2
  go_ret
  exact ⟨rfl, rfl⟩
theorem none_zero {w : World} {b : Nat} (hc : w.cell? ⟨b, 0, none⟩ = some (.int .i64 0)) :
    Calls Try.prog 84 #[.pointer (some ⟨b, 0, none⟩)] w fun e w' => e = .returned (.bool true) ∧ w = w' := by
  go_enter Try.func84, Try.ntmps84
  go_wp2
  go_ret
  exact ⟨rfl, rfl⟩

set_option maxHeartbeats 2000000 in
set_option maxRecDepth 100000 in
theorem find_any {w : World} {b : Nat} {most seed : Int} {hb hc : Nat} {lv fv : Value} {hd nx : List Int} {l : Nms} {fr : List Int} {many : Int} (t : Tb w b most seed hb hc lv fv hd nx l fr many)
    {ch : Nat → List Nat} (hch : Chains (hsN seed) hd nx l ch (fun _ => True)) (hdist : Distinct l) (s : ByteArray) (hs : s.size ≤ 140737488355328) :
    Calls Try.prog 86 #[.pointer (some ⟨b, 0, none⟩), .string s] w fun e w' => e = .returned (.int .i64 (idxI (findN l s.data.toList))) ∧ Below w.heap.size w w' := by
  have hlt := hs_lt t.pos seed s.data.toList
  have HH := Lib.hid (head_any t s hs)
  have HF := Lib.hid (chFind_is hch hdist s.data.toList)
  have HOK := Lib.hid (hch.ok _ hlt)
  have hhd := t.head hlt
  obtain ⟨i, hi⟩ : ∃ i, hsN seed s.data.toList % hd.length = i := ⟨_, rfl⟩
  rw [hi] at hlt HH HF HOK hhd
  clear hi
  generalize idxI (findN l s.data.toList) = F at *
  have T := Lib.hid t
  have HCH := Lib.hid hch
  have HL : Hid (∀ n ∈ ch i, liveB l n = true) := fun n hn => ((hch.mem _ hlt n).1 hn).2.1
  clear t hch hdist hlt
  generalize hd.getD i 0 = h at *
  go_enter Try.func86, Try.ntmps86
  go_wp2_with fail
  refine HH.out.mono ?_
  rintro e w1 ⟨rfl, b1⟩
  have hlt1 : hb < w.heap.size := (ownsRow_lt T.out.heads (g := hb) rfl)
  have hhd1 : w1.cell? ⟨hb, i, none⟩ = some (.int .i64 h) := (b1.cell (p := ⟨hb, i, none⟩) hlt1).trans hhd
  have T1 := Lib.hid (T.out.below b1)
  have B1 := Lib.hid b1
  clear HH hhd b1 hlt1
  go_wp2_with fail
  go_loopg [5] (ch i).length (fun k v wr => ∃ (c : List Nat) (h : Int), k = c.length ∧ v = .int .i64 h ∧ chainOk nx h c ∧ (∀ n ∈ c, liveB l n = true) ∧ chFind l s.data.toList c = F ∧ w1 = wr)
  case atStart => exact ⟨ch i, h, rfl, rfl, HOK.out, HL.out, HF.out, rfl⟩
  case round =>
    obtain ⟨c, h', hk, rfl, hok, hlive, hfind, rfl⟩ := hrel
    have HK := Lib.hid hk
    have HFI := Lib.hid hfind
    clear hk hfind hhd1
    cases c with
    | nil =>
      have hm1 : h' = -1 := hok
      subst hm1
      have hF : Hid (F = -1) := HFI.out.symm
      clear hok hlive HFI
      go_wp2_with fail
      go_ret
      exact ⟨by rw [hF.out]; rfl, B1.out⟩
    | cons n c =>
      obtain ⟨rfl, hn, hrest⟩ := hok
      have hn2 : n < l.length := by rw [← T.out.len]; exact hn
      obtain ⟨g, cap, hlv, hg, hgb, hgh⟩ := T.out.lform (by omega)
      subst hlv
      obtain ⟨n0, n1, n2⟩ := T1.out.names hn2
      obtain ⟨c0, c1, c2, c3, c4, c5⟩ := T1.out.cells
      have hlow := T.out.low
      generalize nx.getD n 0 = m at n2 hrest
      have HR := Lib.hid hrest
      have HLV := Lib.hid hlive
      by_cases he : (nmAt l n).1 = s.data.toList
      · have hF : Hid (F = (n : Int)) := by
          have := HFI.out
          unfold chFind at this
          rw [if_pos he] at this
          exact this.symm
        have hne : ((⟨(nmAt l n).1.toArray⟩ : ByteArray).toList == s.toList) = true := by
          rw [mk_toList, he, ByteArray.toList_eq]; simp
        clear HFI hrest hlive he c0 c1 c2 c4 c5 n1 n2
        generalize (⟨(nmAt l n).1.toArray⟩ : ByteArray) = S at *
        go_wp2_with fail
        go_ret
        exact ⟨by rw [hF.out]; rfl, B1.out⟩
      · have hF : Hid (chFind l s.data.toList c = F) := by
          have := HFI.out
          unfold chFind at this
          rw [if_neg he] at this
          exact this
        have hne : ((⟨(nmAt l n).1.toArray⟩ : ByteArray).toList == s.toList) = false := by
          rw [mk_toList, ByteArray.toList_eq, beq_eq_false_iff_ne]
          exact he
        clear HFI hrest hlive he c0 c1 c2 c4 c5 n1
        generalize (⟨(nmAt l n).1.toArray⟩ : ByteArray) = S at *
        go_wp2_with fail
        go_roundg c.length
        case measure => rw [HK.out]; simp
        case rel => exact ⟨c, m, rfl, rfl, HR.out, fun q hm => HLV.out q (by simp [hm]), hF.out, rfl⟩
end Go.Proofs.Ythngkimncdpekaa
