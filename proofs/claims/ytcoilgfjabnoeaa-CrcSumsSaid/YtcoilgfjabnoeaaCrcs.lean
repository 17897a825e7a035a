/- tabulariumref03.Of. -/
import Derived.Test.YtcoilgfjabnoeaaCrcr
import Derived.Handy
namespace Go.Proofs.Ytcoilgfjabnoeaa
open Go.RowKit

set_option maxHeartbeats 1000000 in
set_option maxRecDepth 100000 in
theorem refof_any (l : List UInt8) (A : Option Addr) (m c : Nat) (w : World) (hb : Bs w A m c l) : Calls Try.prog 17 #[.slice A m c] w fun e w' => e = .returned (.int .u32 (4294967295 - (Crc.run 4294967295 l : Int))) ∧ w = w' := by
  have hm := hb.len
  have hmax := hb.max
  have HM := Lib.hid hm
  clear hm
  go_enter Try.func17, Try.ntmps17
  go_wp2
  go_loop [3, 4] (fun nv kv => ∃ n k : Nat, nv = .int .u32 n ∧ kv = .int .i64 k ∧ k ≤ m ∧ n < 4294967296 ∧ Hid (Crc.run n (l.drop k) = Crc.run 4294967295 l)) (fun _ kv => m - (intOf kv).toNat)
  case atStart => exact ⟨4294967295, 0, rfl, rfl, by omega, by omega, rfl⟩
  case round =>
    obtain ⟨n, k, rfl, rfl, hk, hn, HI⟩ := hrel
    by_cases hlt : k < m
    · obtain ⟨ad, rfl⟩ := hb.addr (by omega)
      have hkl : k < l.length := by have := HM.out; omega
      have hc0 : w.cell? (ad.add k) = some (.int .u8 (l[k].toNat : Int)) := hb.cell hkl
      have h1 := HI.out
      rw [List.drop_eq_getElem_cons hkl] at h1
      have hby := l[k].toNat_lt
      have hx : bits .xor .u32 (n : Int) (l[k].toNat : Int) = ((n ^^^ l[k].toNat : Nat) : Int) := u32_xor_nat n _ hn (by omega)
      have hxl : n ^^^ l[k].toNat < 2 ^ 32 := Nat.xor_lt_two_pow hn (by omega)
      simp only [Crc.run] at h1
      generalize l[k].toNat = b at *
      generalize n ^^^ b = n0 at *
      have HB : Hid (Crc.run (Crc.bits8 n0) (l.drop (k + 1)) = Crc.run 4294967295 l) := h1
      clear h1 HI
      go_wp2
      go_loop [3, 5] (fun nv jv => ∃ x j : Nat, nv = .int .u32 x ∧ jv = .int .i64 j ∧ j ≤ 8 ∧ x < 4294967296 ∧ Hid (iter (8 - j) x = Crc.bits8 n0)) (fun _ jv => 8 - (intOf jv).toNat)
      case atStart => exact ⟨n0, 0, rfl, rfl, by omega, by omega, rfl⟩
      case round =>
        obtain ⟨x, j, rfl, rfl, hj, hxx, HJ⟩ := hrel
        by_cases hlj : j < 8
        · have hs : 8 - j = (8 - (j + 1)) + 1 := by omega
          have h1 := HJ.out
          rw [hs] at h1
          have HK : Hid (iter (8 - (j + 1)) (Crc.bit x) = Crc.bits8 n0) := h1
          clear h1 hs HJ
          have hbl := Crc.bit_lt hxx
          rcases Nat.mod_two_eq_zero_or_one x with h2 | h2
          · have ht : ((x : Int) % 2 == 1) = false := by rw [beq_eq_false_iff_ne]; omega
            have he := bit_even' h2
            rw [he] at HK hbl
            clear he h2
            go_wp2
            go_round
            case rel => exact ⟨x / 2, j + 1, by go_num, by go_num, by omega, hbl, HK⟩
            case measure => simp [intOf]; omega
          · have ht : ((x : Int) % 2 == 1) = true := by rw [beq_iff_eq]; omega
            have he := bit_odd h2
            rw [he] at HK hbl
            have hx2 : bits .xor .u32 ((x : Int) / 2) 3988292384 = ((x / 2 ^^^ 3988292384 : Nat) : Int) := by
              have := u32_xor_nat (x / 2) 3988292384 (by omega) (by omega)
              rwa [show ((x / 2 : Nat) : Int) = (x : Int) / 2 by omega] at this
            generalize x / 2 ^^^ 3988292384 = y at *
            clear he h2
            go_wp2
            go_round
            case rel => exact ⟨y, j + 1, by go_num, by go_num, by omega, hbl, HK⟩
            case measure => simp [intOf]; omega
        · have hj8 : Hid (j = 8) := by unfold Hid; omega
          have h1 := HJ.out
          rw [hj8.out] at h1
          have HX : Hid (x = Crc.bits8 n0) := h1
          clear h1 HJ
          go_wp2
          go_round
          case rel => exact ⟨x, k + 1, rfl, by go_num, by omega, hxx, by rw [HX.out]; exact HB⟩
          case measure => simp [intOf]; omega
    · have hk2 : Hid (k = m) := by unfold Hid; omega
      have h1 := HI.out
      rw [List.drop_eq_nil_of_le (by rw [hk2.out, HM.out]; exact Nat.le_refl _)] at h1
      have HR : Hid (n = Crc.run 4294967295 l) := h1
      clear h1 HI
      go_wp2
      go_ret
      exact ⟨by rw [← HR.out]; rfl, rfl⟩
end Go.Proofs.Ytcoilgfjabnoeaa
