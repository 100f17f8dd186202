/- How long a record must be. -/
import Derived.Test.YtmlgjmcenjbbeaaB
namespace Go.Proofs.Ytmlgjmcenjbbeaa
open Go.RowKit
namespace Nm
def need (l : List UInt8) : Nat := (l.length + 11) / 4 * 4
end Nm
theorem and_mask (n : Nat) (h : n < 2 ^ 64) : n &&& 18446744073709551612 = n / 4 * 4 := by
  have e : (18446744073709551612 : Nat) = (2 ^ 62 - 1) <<< 2 := by decide
  have e2 : n / 4 * 4 = (n >>> 2) <<< 2 := by rw [Nat.shiftLeft_eq, Nat.shiftRight_eq_div_pow]
  rw [e, e2]
  apply Nat.eq_of_testBit_eq
  intro i
  rw [Nat.testBit_and, Nat.testBit_shiftLeft, Nat.testBit_shiftLeft, Nat.testBit_shiftRight, Nat.testBit_two_pow_sub_one]
  by_cases h2 : 2 ≤ i
  · by_cases h3 : i - 2 < 62
    · simp [h2, h3, show 2 + (i - 2) = i by omega]
    · have : n.testBit i = false := Nat.testBit_lt_two_pow (Nat.lt_of_lt_of_le h (Nat.pow_le_pow_right (by decide) (by omega)))
      simp [h2, h3, this, show 2 + (i - 2) = i by omega]
  · simp [h2]
theorem andNot3 (n : Nat) (h : n < 2 ^ 62) : bits .andNot .i64 (n : Int) 3 = ((n / 4 * 4 : Nat) : Int) := by
  show IntKind.i64.wrap ((BitVec.ofInt 64 (n : Int) &&& ~~~BitVec.ofInt 64 3).toNat : Int) = _
  have h3 : (~~~BitVec.ofInt 64 3).toNat = 18446744073709551612 := by decide
  have hn : (BitVec.ofInt 64 (n : Int)).toNat = n := by
    rw [BitVec.toNat_ofInt]; omega
  rw [BitVec.toNat_and, h3, hn, and_mask n (by omega), IntKind.wrap_i64]
  omega
set_option maxHeartbeats 1000000 in
theorem needr_any (l : List UInt8) (w : World) (hl : l.length ≤ 140737488355328) : Calls Try.prog 50 #[.string (S l)] w (Num (Nm.need l) w) := by
  go_enter Try.func50, Try.ntmps50
  go_wp2
  go_ret
  refine ⟨?_, rfl⟩
  show Ending.returned (.int .i64 _) = _
  congr 2
  unfold Nm.need
  omega
set_option maxHeartbeats 1000000 in
theorem need_any (l : List UInt8) (w : World) (hl : l.length ≤ 140737488355328) : Calls Try.prog 48 #[.string (S l)] w (Num (Nm.need l) w) := by
  go_enter Try.func48, Try.ntmps48
  go_wp2
  go_ret
  refine ⟨?_, rfl⟩
  show Ending.returned (.int .i64 _) = _
  congr 2
  have e : (8 + (l.length : Int) + 3) = ((l.length + 11 : Nat) : Int) := by omega
  rw [e, andNot3 _ (by omega)]
  rfl
end Go.Proofs.Ytmlgjmcenjbbeaa
