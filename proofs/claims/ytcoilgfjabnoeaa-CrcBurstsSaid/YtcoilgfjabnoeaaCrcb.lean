/- tabulariumref03.Burst. -/
import Derived.Test.YtcoilgfjabnoeaaApp
import Derived.Test.YtcoilgfjabnoeaaCrcq
import Derived.Lib.BitFns
namespace Go.Proofs.Ytcoilgfjabnoeaa
open Go.RowKit

theorem own_head {w : World} {base : Nat} {e : TypeId} {size n c : Nat} {A : Option Addr} {xs : List Value} (h : w.ownsRow base e size (.slice A n c) n xs) (hn : 0 < n) : ∃ g, A = some ⟨g, 0, none⟩ ∧ base ≤ g := by
  rcases h.2 with ⟨hv, h0⟩ | ⟨g, cap, cur, hv, hb, _⟩
  · omega
  · injection hv with hA
    exact ⟨g, hA, hb⟩
theorem bval_set (l : List UInt8) (i : Nat) (c : UInt8) : (bval l).set i (.int .u8 (c.toNat : Int)) = bval (l.set i c) := by simp [bval, List.map_set]
theorem pow_u8 (j : Nat) (h : j < 7) : IntKind.u8.wrap (((2 ^ j : Nat) : Int) * 2) = ((2 ^ (j + 1) : Nat) : Int) := by
  have : ∀ j : Fin 7, IntKind.u8.wrap (((2 ^ j.val : Nat) : Int) * 2) = ((2 ^ (j.val + 1) : Nat) : Int) := by decide
  exact this ⟨j, h⟩

set_option maxHeartbeats 2000000 in
set_option maxRecDepth 100000 in
theorem burst_any (l : List UInt8) (A : Option Addr) (n c at' b0 : Nat) (w : World) (hb : Bs w A n c l) (hn : n ≤ 1000000) (hat : at' ≤ 8000000) (hb0 : b0 < 4294967296) :
    Calls Try.prog 41 #[.slice A n c, .int .i64 at', .int .u32 b0] w fun e w' => ∃ q A2 c2, e = .returned (.slice A2 n c2) ∧ q.length = l.length ∧ Crc.num q = Crc.num l ^^^ ((2 ^ at' * b0) % 2 ^ (8 * l.length)) ∧ w'.ownsRow w.heap.size 5 1 (.slice A2 n c2) n (bval q) ∧ Below w.heap.size w w' := by
  have hl := hb.len
  have HL := Lib.hid hl
  clear hl
  have HB0 := Lib.hid hb0
  clear hb0
  go_enter Try.func41, Try.ntmps41
  go_wp2_with (first
    | (at_builtin
       refine wpList_app (o := ⟨some 14, _, _, _, _, _⟩) w rfl _ _ rfl w.heap.size [] l _ _ _ (own_nil w _) rfl _ _ _ hb rfl (by omega) (Nat.le_refl _) (Below.refl _ _) n (by omega) l rfl ?_
       intro A1 c1 w1 hown1 hb1 _))
  go_loopw [2, 8] (fun bv kv wr => ∃ (b k : Nat) (q : List UInt8), bv = .int .u32 b ∧ kv = .int .i64 k ∧ k ≤ 32 ∧ b < 4294967296 ∧
    Hid (b = b0 / 2 ^ k ∧ q.length = l.length ∧ Crc.num q = Crc.num l ^^^ ((2 ^ at' * (b0 % 2 ^ k)) % 2 ^ (8 * l.length))) ∧ wr.ownsRow w.heap.size 5 1 (.slice A1 n c1) n (bval q) ∧ Below w.heap.size w wr) (fun _ kv _ => 32 - (intOf kv).toNat)
  case atStart => exact ⟨b0, 0, l, rfl, rfl, by omega, HB0.out, ⟨by simp, rfl, by simp [Nat.mod_one]⟩, hown1, hb1⟩
  case round =>
    obtain ⟨b, k, q, rfl, rfl, hk, hbb, HQ, hown, hB⟩ := hrel
    by_cases hlt : k < 32
    · obtain ⟨q1, q2, q3⟩ := HQ.out
      have hnext : b / 2 = b0 / 2 ^ (k + 1) := by rw [q1, Nat.div_div_eq_div_mul, Nat.pow_succ]
      have hbit := Crc.burst_bit b0 at' (8 * l.length) k
      rw [← q1] at hbit
      by_cases hset : b % 2 = 1 ∧ (at' + k) / 8 < n
      · obtain ⟨hs1, hs2⟩ := hset
        have hin : at' + k < 8 * l.length := by have := HL.out; omega
        rw [if_pos ⟨hs1, hin⟩] at hbit
        have hql : (at' + k) / 8 < q.length := by have := HL.out; omega
        have hfl := Crc.num_flip q (at' + k) (by omega)
        have HQ2 : Hid (b / 2 = b0 / 2 ^ (k + 1) ∧ (Crc.flip q (at' + k)).length = l.length ∧ Crc.num (Crc.flip q (at' + k)) = Crc.num l ^^^ ((2 ^ at' * (b0 % 2 ^ (k + 1))) % 2 ^ (8 * l.length))) :=
          ⟨hnext, by rw [Crc.flip_length]; exact q2, by rw [hfl, q3, hbit, Nat.xor_assoc]⟩
        obtain ⟨g, rfl, hg⟩ := own_head hown (by omega)
        obtain ⟨i, hi⟩ : ∃ i, i = at' + k := ⟨_, rfl⟩
        rw [← hi] at hs2 hql HQ2
        have hcell := hown.cellAt (i / 8) (by omega)
        rw [bval_get hql] at hcell
        have hfz := hown.frozenAt (i / 8)
        have hst := hown.stored (i / 8) (.int .u8 ((q[i / 8] ^^^ UInt8.ofNat (2 ^ (i % 8))).toNat : Int))
        rw [bval_set, ← Crc.flip_set q i hql] at hst
        have hp8 : 2 ^ (i % 8) < 256 := by have := Nat.pow_lt_pow_right (a := 2) (by omega) (Nat.mod_lt i (show 8 > 0 by omega)); exact this
        have hxor : bits .xor .u8 (q[i / 8].toNat : Int) ((2 ^ (i % 8) : Nat) : Int) = ((q[i / 8] ^^^ UInt8.ofNat (2 ^ (i % 8))).toNat : Int) := by
          rw [UInt8.toNat_xor, Crc.ofNat_toNat hp8]; exact u8_xor_nat _ _ q[i / 8].toNat_lt hp8
        obtain ⟨cv, hcv⟩ : ∃ cv, cv = (q[i / 8] ^^^ UInt8.ofNat (2 ^ (i % 8))).toNat := ⟨_, rfl⟩
        rw [← hcv] at hst hxor
        have hi2 : (at' : Int) + (k : Int) = (i : Int) := by omega
        have hb1 : ((b : Int) % 2 == 1) = true := by rw [beq_iff_eq]; omega
        have hdl : decide ((i : Int) / 8 < (n : Int)) = true := by simp; omega
        have HST := Lib.hid hst
        have HX := Lib.hid hxor
        clear hst hxor hcv hi q1 q2 q3 hnext hbit hfl HQ hp8
        go_wp2
        go_loop [10, 11] (fun ov jv => ∃ j : Nat, ov = .int .u8 ((2 ^ j : Nat) : Int) ∧ jv = .int .i64 j ∧ j ≤ i % 8) (fun _ jv => i % 8 - (intOf jv).toNat)
        case atStart => exact ⟨0, rfl, rfl, by omega⟩
        case round =>
          obtain ⟨j, rfl, rfl, hj⟩ := hrel
          by_cases hjl : j < i % 8
          · have hpw := pow_u8 j (by omega)
            have hd : decide ((j : Int) < (i : Int) % 8) = true := by simp; omega
            go_wp2
            go_round
            case rel => exact ⟨j + 1, by rw [← hpw]; rfl, by go_num, by omega⟩
            case measure => simp [intOf]; omega
          · obtain rfl : j = i % 8 := by omega
            have hd : decide (((i % 8 : Nat) : Int) < (i : Int) % 8) = false := by simp
            have hx : bits .xor .u8 (q[i / 8].toNat : Int) ((2 : Int) ^ (i % 8)) = (cv : Int) := by
              have h := HX.out
              rw [show (((2 ^ (i % 8) : Nat)) : Int) = (2 : Int) ^ (i % 8) by simp] at h
              exact h
            go_wp2
            go_roundw
            case rel => exact ⟨b / 2, k + 1, Crc.flip q i, by go_num, by go_num, by omega, by omega, HQ2, HST.out.1, hB.setCell hg _⟩
            case measure => simp [intOf]; omega
      · rw [if_neg (by rintro ⟨h1, h2⟩; exact hset ⟨h1, by have := HL.out; omega⟩), Nat.xor_zero] at hbit
        have HQ2 : Hid (b / 2 = b0 / 2 ^ (k + 1) ∧ q.length = l.length ∧ Crc.num q = Crc.num l ^^^ ((2 ^ at' * (b0 % 2 ^ (k + 1))) % 2 ^ (8 * l.length))) := ⟨hnext, q2, by rw [hbit]; exact q3⟩
        clear q1 q2 q3 hnext hbit HQ
        by_cases hs1 : b % 2 = 1
        · have hs2 : ¬ (at' + k) / 8 < n := fun h => hset ⟨hs1, h⟩
          have hb1 : ((b : Int) % 2 == 1) = true := by rw [beq_iff_eq]; omega
          have hdl : decide (((at' : Int) + (k : Int)) / 8 < (n : Int)) = false := by simp; omega
          clear hset hs1
          go_wp2
          go_roundw
          case rel => exact ⟨b / 2, k + 1, q, by go_num, by go_num, by omega, by omega, HQ2, hown, hB⟩
          case measure => simp [intOf]; omega
        · have hb1 : ((b : Int) % 2 == 1) = false := by rw [beq_eq_false_iff_ne]; omega
          clear hset hs1
          go_wp2
          go_roundw
          case rel => exact ⟨b / 2, k + 1, q, by go_num, by go_num, by omega, by omega, HQ2, hown, hB⟩
          case measure => simp [intOf]; omega
    · obtain rfl : k = 32 := by omega
      go_wp2
      go_ret
      obtain ⟨q1, q2, q3⟩ := HQ.out
      rw [Nat.mod_eq_of_lt (a := b0) HB0.out] at q3
      exact ⟨q, A1, c1, rfl, q2, q3, hown, hB⟩
end Go.Proofs.Ytcoilgfjabnoeaa
