/- Varints: what varint.Get computes. -/
import Derived.Test.YtcoilgfjabnoeaaVarw
namespace Go.Proofs.Ytcoilgfjabnoeaa
open Go.RowKit

theorem getF_step {l : List UInt8} {k a : Nat} (h : k < l.length) : Var.getF (l.drop k) k a =
    if k = 9 ∧ 1 < l[k].toNat then (0, 0, 4) else if 0 < k ∧ l[k].toNat = 0 then (0, 0, 3)
    else if l[k].toNat < 128 then (a + l[k].toNat % 128 * 128 ^ k, k + 1, 0) else Var.getF (l.drop (k + 1)) (k + 1) (a + l[k].toNat % 128 * 128 ^ k) := by
  rw [List.drop_eq_getElem_cons h]
  rfl
theorem and127_byte : ∀ n : Fin 256, bits .and .u8 (n.val : Int) 127 = ((n.val % 128 : Nat) : Int) := by decide +kernel
theorem or_step (a d k : Nat) (ha : a < 128 ^ k) (hd : d < 256) (hk : k ≤ 9) (h9 : k = 9 → d ≤ 1) :
    bits .or .u64 (a : Int) (IntKind.u64.wrap (IntKind.u64.wrap (bits .and .u8 (d : Int) 127) * 2 ^ (7 * k))) = ((a + d % 128 * 128 ^ k : Nat) : Int) := by
  have h1 := and127_byte ⟨d, hd⟩
  simp only at h1
  have hp : (128 : Nat) ^ k = 2 ^ (7 * k) := by rw [show (128 : Nat) = 2 ^ 7 from rfl, ← Nat.pow_mul]
  have hm : d % 128 * 128 ^ k < 18446744073709551616 := by
    by_cases h : k = 9
    · subst h
      have := h9 rfl
      have : d % 128 * 128 ^ 9 ≤ 1 * 128 ^ 9 := Nat.mul_le_mul_right _ (by omega)
      omega
    · have h2 : (128 : Nat) ^ k ≤ 128 ^ 8 := Nat.pow_le_pow_right (by omega) (by omega)
      have h3 : d % 128 * 128 ^ k ≤ 127 * 128 ^ 8 := Nat.mul_le_mul (by omega) h2
      omega
  have ha2 : a < 18446744073709551616 := by
    have h2 : (128 : Nat) ^ k ≤ 128 ^ 9 := Nat.pow_le_pow_right (by omega) hk
    omega
  have e1 : IntKind.u64.wrap (IntKind.u64.wrap (bits .and .u8 (d : Int) 127) * 2 ^ (7 * k)) = ((d % 128 * 128 ^ k : Nat) : Int) := by
    rw [h1, IntWalk.u64_in ((d % 128 : Nat) : Int) (by omega)]
    have e2 : ((d % 128 : Nat) : Int) * 2 ^ (7 * k) = ((d % 128 * 128 ^ k : Nat) : Int) := by rw [hp]; simp
    rw [e2, IntWalk.u64_in _ (by omega)]
  rw [e1, u64_or_nat _ _ ha2 hm]
  congr 1
  rw [hp, Nat.or_comm, Nat.add_comm, ← Nat.shiftLeft_eq, Nat.shiftLeft_add_eq_or_of_lt (by rw [← hp]; exact ha)]
theorem or_step9 (a d k : Nat) (ha : a < 128 ^ k) (hd : d < 256) (hk : k = 9) (h9 : d ≤ 1) :
    bits .or .u64 (a : Int) (IntKind.u64.wrap (IntKind.u64.wrap (bits .and .u8 (d : Int) 127) * 9223372036854775808)) = ((a + d % 128 * 128 ^ k : Nat) : Int) := by
  subst hk
  have h := or_step a d 9 ha hd (by omega) (fun _ => h9)
  rw [← h]
  congr 3
theorem acc_lt {a d k : Nat} (ha : a < 128 ^ k) : a + d % 128 * 128 ^ k < 128 ^ (k + 1) := by
  have h5 : d % 128 * 128 ^ k ≤ 127 * 128 ^ k := Nat.mul_le_mul_right _ (by omega)
  rw [Nat.pow_succ]
  omega
theorem ret3 {a b c : Int} {t : Nat × Nat × Nat} (h1 : a = t.1) (h2 : b = t.2.1) (h3 : c = t.2.2) :
    Ending.returned (.tuple #[.int .u64 a, .int .i64 b, .int .i64 c]) = .returned (.tuple #[.int .u64 t.1, .int .i64 t.2.1, .int .i64 t.2.2]) := by rw [h1, h2, h3]
set_option maxRecDepth 100000 in
set_option maxHeartbeats 400000 in
theorem get_any (l : List UInt8) (A : Option Addr) (n c : Nat) (w : World) (hb : Bs w A n c l) :
    Calls Try.prog 54 #[.slice A n c] w fun e w' => e = .returned (.tuple #[.int .u64 (Var.get l).1, .int .i64 (Var.get l).2.1, .int .i64 (Var.get l).2.2]) ∧ w = w' := by
  have hn := hb.len
  have hmax := hb.max
  have HN := Lib.hid hn
  go_enter Try.func54, Try.ntmps54
  clear hn
  go_wp2
  go_loop [2, 9] (fun nv iv => ∃ (k a : Nat), k ≤ n ∧ k ≤ 9 ∧ iv = .int .i64 k ∧ nv = .int .u64 a ∧ Hid (Var.get l = Var.getF (l.drop k) k a ∧ a < 128 ^ k)) (fun _ iv => n - (intOf iv).toNat)
  case atStart => exact ⟨0, 0, by omega, by omega, rfl, rfl, rfl, by simp⟩
  case round =>
    obtain ⟨k, a, hk, hk9, rfl, rfl, HG⟩ := hrel
    by_cases hlt : k < n
    · obtain ⟨ad, rfl⟩ := hb.addr (by omega)
      have hkl : k < l.length := by have := HN.out; omega
      have hc0 : w.cell? (ad.add k) = some (.int .u8 (l[k].toNat : Int)) := hb.cell hkl
      have hstep := HG.out.1
      rw [getF_step hkl] at hstep
      have hby0 : l[k].toNat < 256 := l[k].toNat_lt
      obtain ⟨d, hd⟩ : ∃ d, d = l[k].toNat := ⟨_, rfl⟩
      rw [← hd] at hc0 hstep hby0
      have HS := Lib.hid hstep
      have HA := Lib.hid HG.out.2
      clear hstep hd HG
      by_cases h9 : k = 9 ∧ 1 < d
      · have h9b : ((k : Int) == 9) = true := by simp; omega
        have hd1 := h9.2
        have HS2 := HS.out
        rw [if_pos h9] at HS2
        have HS3 := Lib.hid HS2
        clear HS2 HS h9
        go_wp2
        go_ret3
        exact ⟨ret3 (by rw [HS3.out]; rfl) (by rw [HS3.out]; rfl) (by rw [HS3.out]; rfl), rfl⟩
      · have HS2 := HS.out
        rw [if_neg h9] at HS2
        have HS3 := Lib.hid HS2
        have HO := Lib.hid (or_step a d k HA.out (by omega) (by omega) (by omega))
        have H9 := Lib.hid h9
        clear HS2 HS h9
        go_wp2
        · exact absurd ⟨by omega, by omega⟩ H9.out
        · go_ret3
          have hd0 : ((d : Int) == 0) = true := by assumption
          have e := HS3.out
          rw [if_pos ⟨by omega, by simpa using hd0⟩] at e
          exact ⟨ret3 (by rw [e]; rfl) (by rw [e]; rfl) (by rw [e]; rfl), rfl⟩
        · go_ret3
          have hd0 : ((d : Int) == 0) = false := by assumption
          have e := HS3.out
          rw [if_neg (fun h => by simp [h.2] at hd0), if_pos (by omega)] at e
          exact ⟨ret3 (by rw [e]; exact or_step9 a d k HA.out (by omega) (by omega) (by omega)) (by rw [e]; show (10 : Int) = ((k + 1 : Nat) : Int); omega) (by rw [e]; rfl), rfl⟩
        · go_ret3
          have hd0 : ((d : Int) == 0) = true := by assumption
          have e := HS3.out
          rw [if_pos ⟨by omega, by simpa using hd0⟩] at e
          exact ⟨ret3 (by rw [e]; rfl) (by rw [e]; rfl) (by rw [e]; rfl), rfl⟩
        · go_ret3
          have hd0 : ((d : Int) == 0) = false := by assumption
          have e := HS3.out
          rw [if_neg (fun h => by simp [h.2] at hd0), if_pos (by omega)] at e
          exact ⟨ret3 (by rw [e]; exact HO.out) (by rw [e]; rfl) (by rw [e]; rfl), rfl⟩
        · have hd0 : ((d : Int) == 0) = false := by assumption
          have e := HS3.out
          rw [if_neg (fun h => by simp [h.2] at hd0), if_neg (by omega)] at e
          go_round
          case rel => exact ⟨k + 1, _, by omega, by omega, by go_num, by rw [HO.out], e, acc_lt HA.out⟩
          case measure => simp [intOf]; omega
        · go_ret3
          have e := HS3.out
          rw [if_neg (by omega), if_pos (by omega)] at e
          exact ⟨ret3 (by rw [e]; exact HO.out) (by rw [e]; rfl) (by rw [e]; rfl), rfl⟩
        · have e := HS3.out
          rw [if_neg (by omega), if_neg (by omega)] at e
          go_round
          case rel => exact ⟨k + 1, _, by omega, by omega, by go_num, by rw [HO.out], e, acc_lt HA.out⟩
          case measure => simp [intOf]; omega
    · go_wp2
      go_ret3
      have hkn : k = n := by omega
      have h2 : Var.get l = (0, 0, 2) := by
        rw [HG.out.1, List.drop_of_length_le (by have := HN.out; omega)]; rfl
      rw [h2]
      exact ⟨rfl, rfl⟩
end Go.Proofs.Ytcoilgfjabnoeaa
