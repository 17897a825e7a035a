/- tabulariumref03.Entry. -/
import Derived.Test.YtcoilgfjabnoeaaChecked
import Derived.Test.YtcoilgfjabnoeaaCrcp
import Derived.Test.YtcoilgfjabnoeaaBase
import Derived.Lib.BitFns
import Derived.Handy
namespace Go.Proofs.Ytcoilgfjabnoeaa
open Go.RowKit

/-- A bit's step, so many times. -/
def iter (k n : Nat) : Nat := match k with
  | 0 => n
  | k + 1 => iter k (Crc.bit n)
theorem iter_eight (n : Nat) : iter 8 n = Crc.bits8 n := rfl
theorem bit_odd {n : Nat} (h : n % 2 = 1) : Crc.bit n = n / 2 ^^^ 3988292384 := by unfold Crc.bit; rw [h, Nat.one_mul]
theorem bit_even' {n : Nat} (h : n % 2 = 0) : Crc.bit n = n / 2 := by unfold Crc.bit; rw [h, Nat.zero_mul, Nat.xor_zero]
set_option maxHeartbeats 400000 in
set_option maxRecDepth 100000 in
theorem entry_any (i : Nat) (w : World) (hi : i < 256) : Calls Try.prog 19 #[.int .i64 i] w fun e w' => e = .returned (.int .u32 (Crc.bits8 i)) ∧ w = w' := by
  go_enter Try.func19, Try.ntmps19
  go_wp2
  go_loop [3, 4] (fun nv kv => ∃ n k : Nat, nv = .int .u32 n ∧ kv = .int .i64 k ∧ k ≤ 8 ∧ n < 4294967296 ∧ Hid (iter (8 - k) n = Crc.bits8 i)) (fun _ kv => 8 - (intOf kv).toNat)
  case atStart => exact ⟨i, 0, rfl, rfl, by omega, by omega, rfl⟩
  case round =>
    obtain ⟨n, k, rfl, rfl, hk, hn, HI⟩ := hrel
    by_cases hlt : k < 8
    · have hs : 8 - k = (8 - (k + 1)) + 1 := by omega
      have h1 := HI.out
      rw [hs] at h1
      have HJ : Hid (iter (8 - (k + 1)) (Crc.bit n) = Crc.bits8 i) := h1
      clear h1 hs HI
      have hbl := Crc.bit_lt hn
      rcases Nat.mod_two_eq_zero_or_one n with h2 | h2
      · have ht : ((n : Int) % 2 == 1) = false := by rw [beq_eq_false_iff_ne]; omega
        have he := bit_even' h2
        rw [he] at HJ hbl
        clear he h2
        go_wp2
        go_round
        case rel => exact ⟨n / 2, k + 1, by go_num, by go_num, by omega, hbl, HJ⟩
        case measure => simp [intOf]; omega
      · have ht : ((n : Int) % 2 == 1) = true := by rw [beq_iff_eq]; omega
        have he := bit_odd h2
        rw [he] at HJ hbl
        have hx : bits .xor .u32 ((n : Int) / 2) 3988292384 = ((n / 2 ^^^ 3988292384 : Nat) : Int) := by
          have := u32_xor_nat (n / 2) 3988292384 (by omega) (by omega)
          rwa [show ((n / 2 : Nat) : Int) = (n : Int) / 2 by omega] at this
        generalize n / 2 ^^^ 3988292384 = m at *
        clear he h2
        go_wp2
        go_round
        case rel => exact ⟨m, k + 1, by go_num, by go_num, by omega, hbl, HJ⟩
        case measure => simp [intOf]; omega
    · have hk8 : Hid (k = 8) := by unfold Hid; omega
      go_wp2
      go_ret
      refine ⟨congrArg Ending.returned (congrArg (Value.int IntKind.u32) ?_), rfl⟩
      have h1 := HI.out
      rw [hk8.out] at h1
      rw [← h1]
      rfl
end Go.Proofs.Ytcoilgfjabnoeaa
