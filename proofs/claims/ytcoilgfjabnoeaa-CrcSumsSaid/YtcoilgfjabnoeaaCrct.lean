/- CRC-32: the complement. -/
import Derived.Test.YtcoilgfjabnoeaaCrcp
namespace Go.Proofs.Ytcoilgfjabnoeaa.Crc

theorem flip_sub (n : Nat) (h : n < 4294967296) : 4294967295 - n = 4294967295 ^^^ n := by
  have h2 : n < 2 ^ 32 := h
  have e : 4294967295 - n = 2 ^ 32 - (n + 1) := by omega
  rw [e]
  apply Nat.eq_of_testBit_eq
  intro i
  rw [Nat.testBit_two_pow_sub_succ h2, Nat.testBit_xor, show (4294967295 : Nat) = 2 ^ 32 - 1 from rfl, Nat.testBit_two_pow_sub_one]
  by_cases hi : i < 32
  · simp [hi]
  · have : n.testBit i = false := Nat.testBit_lt_two_pow (Nat.lt_of_lt_of_le h2 (Nat.pow_le_pow_right (by omega) (by omega)))
    simp [hi, this]
theorem of_eq (l : List UInt8) : of l = 4294967295 - run 4294967295 l := by
  unfold of
  rw [flip_sub _ (run_lt (by omega) l)]
end Go.Proofs.Ytcoilgfjabnoeaa.Crc
