/- The law's name(n): "tag" and four digits. -/
import Derived.Test.YtanmihifkjhaaaaIntK
namespace Go.Proofs.Ytanmihifkjhaaaa
set_option linter.unusedVariables false
open Go.RowKit Go.Maps Go.Sort

def dig4 (n : Nat) : List UInt8 := [UInt8.ofNat (48 + n / 1000 % 10), UInt8.ofNat (48 + n / 100 % 10), UInt8.ofNat (48 + n / 10 % 10), UInt8.ofNat (48 + n % 10)]
def nameB (n : Nat) : ByteArray := ⟨#[116, 97, 103]⟩ ++ ⟨(dig4 n).toArray⟩
theorem nameB_size (n : Nat) : (nameB n).size = 7 := by
  unfold nameB dig4
  rw [ByteArray.size_append]
  rfl
theorem digByte (n : Nat) (h : n < 256) : (n : Int) = ((UInt8.ofNat n).toNat : Int) := by
  simp only [UInt8.toNat_ofNat']
  omega
theorem four_bytes (n : Nat) (W : World) : Sem.run Try.prog (convert 41 9 (.slice (some ⟨W.heap.size, 0, none⟩) 4 4)) (W.alloc (.cells #[.int .u8 ((48 + n / 1000 % 10 : Nat) : Int), .int .u8 ((48 + n / 100 % 10 : Nat) : Int), .int .u8 ((48 + n / 10 % 10 : Nat) : Int), .int .u8 ((48 + n % 10 : Nat) : Int)] 5)) = .ok (.string ⟨(dig4 n).toArray⟩) (W.alloc (.cells #[.int .u8 ((48 + n / 1000 % 10 : Nat) : Int), .int .u8 ((48 + n / 100 % 10 : Nat) : Int), .int .u8 ((48 + n / 10 % 10 : Nat) : Int), .int .u8 ((48 + n % 10 : Nat) : Int)] 5)) := by
  have e : (#[.int .u8 ((48 + n / 1000 % 10 : Nat) : Int), .int .u8 ((48 + n / 100 % 10 : Nat) : Int), .int .u8 ((48 + n / 10 % 10 : Nat) : Int), .int .u8 ((48 + n % 10 : Nat) : Int)] : Array Value) = (Lib.byteCells (dig4 n)).toArray := by
    rw [digByte (48 + n / 1000 % 10) (by omega), digByte (48 + n / 100 % 10) (by omega), digByte (48 + n / 10 % 10) (by omega), digByte (48 + n % 10) (by omega)]
    rfl
  have h := ownsRow_whole (w := W) (e := 5) (xs := Lib.byteCells (dig4 n)) e (by rw [Lib.byteCells_length, show (dig4 n).length = 4 from rfl]; decide)
  rw [Lib.byteCells_length] at h
  have h2 := conv_row _ (dig4 n) _ _ h
  exact h2
theorem dg_div (n d : Nat) : Int.tdiv (n : Int) (d : Int) = ((n / d : Nat) : Int) := by rw [Int.tdiv_eq_ediv_of_nonneg (by omega)]; exact (Int.natCast_ediv n d).symm
theorem dg_mod (n : Nat) : Int.tmod (n : Int) 10 = ((n % 10 : Nat) : Int) := by rw [Int.tmod_eq_emod_of_nonneg (by omega)]; omega
theorem dg_wrap (n : Nat) (h : n ≤ 9999) : wrap64 (n : Int) = (n : Int) := by unfold wrap64; omega
theorem dg_sum (n : Nat) (h : n < 10) : wrap64 (48 + (n : Int)) = ((48 + n : Nat) : Int) := by unfold wrap64; omega
theorem dg_byte (n : Nat) (h : n < 10) : ((48 + n : Nat) : Int) % 256 = ((48 + n : Nat) : Int) := by omega
theorem dg_le (n d : Nat) (h : n ≤ 9999) : n / d ≤ 9999 := Nat.le_trans (Nat.div_le_self _ _) h
set_option maxHeartbeats 2000000 in
set_option maxRecDepth 100000 in
theorem name_any_ (n : Nat) (hn : n ≤ 9999) (w : World) :
    Calls Try.prog 13 #[.int .i64 n] w fun e w' => e = .returned (.string (nameB n)) ∧ Below w.heap.size w w' := by
  have q1 : Int.tdiv (n : Int) 1000 = ((n / 1000 : Nat) : Int) := dg_div n 1000
  have q2 : Int.tdiv (n : Int) 100 = ((n / 100 : Nat) : Int) := dg_div n 100
  have q3 : Int.tdiv (n : Int) 10 = ((n / 10 : Nat) : Int) := dg_div n 10
  have r1 := dg_mod (n / 1000)
  have r2 := dg_mod (n / 100)
  have r3 := dg_mod (n / 10)
  have r4 := dg_mod n
  have p1 := dg_wrap (n / 1000) (dg_le n 1000 hn)
  have p2 := dg_wrap (n / 100) (dg_le n 100 hn)
  have p3 := dg_wrap (n / 10) (dg_le n 10 hn)
  have s1 := dg_sum (n / 1000 % 10) (Nat.mod_lt _ (by decide))
  have s2 := dg_sum (n / 100 % 10) (Nat.mod_lt _ (by decide))
  have s3 := dg_sum (n / 10 % 10) (Nat.mod_lt _ (by decide))
  have s4 := dg_sum (n % 10) (Nat.mod_lt _ (by decide))
  have u1 := dg_byte (n / 1000 % 10) (Nat.mod_lt _ (by decide))
  have u2 := dg_byte (n / 100 % 10) (Nat.mod_lt _ (by decide))
  have u3 := dg_byte (n / 10 % 10) (Nat.mod_lt _ (by decide))
  have u4 := dg_byte (n % 10) (Nat.mod_lt _ (by decide))
  have hcv := fun W => four_bytes n W
  have hts : ¬ 9223372036854775807 < 3 + (⟨(dig4 n).toArray⟩ : ByteArray).size := by
    rw [show (⟨(dig4 n).toArray⟩ : ByteArray).size = 4 from rfl]
    decide
  have HE : Hid (nameB n = ⟨#[116, 97, 103]⟩ ++ ⟨(dig4 n).toArray⟩) := rfl
  generalize (⟨(dig4 n).toArray⟩ : ByteArray) = T at *
  generalize ((48 + n / 1000 % 10 : Nat) : Int) = D1 at *
  generalize ((48 + n / 100 % 10 : Nat) : Int) = D2 at *
  generalize ((48 + n / 10 % 10 : Nat) : Int) = D3 at *
  generalize ((48 + n % 10 : Nat) : Int) = D4 at *
  generalize ((n / 1000 % 10 : Nat) : Int) = M1 at *
  generalize ((n / 100 % 10 : Nat) : Int) = M2 at *
  generalize ((n / 10 % 10 : Nat) : Int) = M3 at *
  generalize ((n % 10 : Nat) : Int) = M4 at *
  generalize ((n / 1000 : Nat) : Int) = N1 at *
  generalize ((n / 100 : Nat) : Int) = N2 at *
  generalize ((n / 10 : Nat) : Int) = N3 at *
  go_enter Try.func13, Try.ntmps13
  go_wp2_with fail
  go_ret
  exact ⟨by rw [HE.out]; rfl, (Below.refl _ _).alloc (Nat.le_refl _) _⟩
end Go.Proofs.Ytanmihifkjhaaaa
