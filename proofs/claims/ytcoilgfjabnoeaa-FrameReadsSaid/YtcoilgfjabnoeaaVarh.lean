/- Varints: what tabulariumref04.Get computes. -/
import Derived.Test.YtcoilgfjabnoeaaVarg
namespace Go.Proofs.Ytcoilgfjabnoeaa
open Go.RowKit

theorem retA3 {a b c : Int} {t : Nat × Nat × Nat} (h1 : a = t.1) (h2 : b = t.2.1) (h3 : c = t.2.2) :
    Ending.returned (.agg #[.int .u64 a, .int .i64 b, .int .i64 c]) = .returned (.agg #[.int .u64 t.1, .int .i64 t.2.1, .int .i64 t.2.2]) := by rw [h1, h2, h3]
theorem mul_step (a d p k : Nat) (ha : a < 128 ^ k) (hd : d < 256) (hk : k ≤ 9) (h9 : k = 9 → d ≤ 1) (hp : p = 128 ^ k) :
    IntKind.u64.wrap ((a : Int) + IntKind.u64.wrap ((d : Int) % 128 * (p : Int))) = ((a + d % 128 * 128 ^ k : Nat) : Int) := by
  subst hp
  have hm : d % 128 * 128 ^ k < 9223372036854775809 := by
    by_cases h : k = 9
    · subst h
      have := h9 rfl
      have : d % 128 * 128 ^ 9 ≤ 1 * 128 ^ 9 := Nat.mul_le_mul_right _ (by omega)
      omega
    · have h2 : (128 : Nat) ^ k ≤ 128 ^ 8 := Nat.pow_le_pow_right (by omega) (by omega)
      have h3 : d % 128 * 128 ^ k ≤ 127 * 128 ^ 8 := Nat.mul_le_mul (by omega) h2
      omega
  have ha2 : a < 9223372036854775808 := by
    have h2 : (128 : Nat) ^ k ≤ 128 ^ 9 := Nat.pow_le_pow_right (by omega) hk
    omega
  have e : (d : Int) % 128 * ((128 ^ k : Nat) : Int) = ((d % 128 * 128 ^ k : Nat) : Int) := by simp
  rw [e]
  clear ha h9 hk e
  generalize d % 128 * 128 ^ k = q at *
  rw [IntWalk.u64_in (q : Int) (by omega), IntWalk.u64_in _ (by omega)]
  omega
theorem wrap_zero (a d k : Nat) (ha : a < 128 ^ k) (hk : k ≤ 9) (hd : d = 0) : IntKind.u64.wrap (a : Int) = ((a + d % 128 * 128 ^ k : Nat) : Int) := by
  subst hd
  have h2 : (128 : Nat) ^ k ≤ 128 ^ 9 := Nat.pow_le_pow_right (by omega) hk
  have h3 : a < 9223372036854775808 := by omega
  rw [IntWalk.u64_in _ (by omega)]
  simp
theorem place_step (p k : Nat) (hp : p = 128 ^ k) (hk : k ≤ 8) : IntKind.u64.wrap ((p : Int) * 128) = ((128 ^ (k + 1) : Nat) : Int) := by
  subst hp
  have h2 : (128 : Nat) ^ k ≤ 128 ^ 8 := Nat.pow_le_pow_right (by omega) hk
  rw [Nat.pow_succ]
  generalize 128 ^ k = q at *
  rw [IntWalk.u64_in _ (by omega)]
  omega
set_option maxRecDepth 100000 in
set_option maxHeartbeats 400000 in
theorem refget_any (l : List UInt8) (A : Option Addr) (n c : Nat) (w : World) (hb : Bs w A n c l) :
    Calls Try.prog 47 #[.slice A n c] w fun e w' => e = .returned (.agg #[.int .u64 (Var.get l).1, .int .i64 (Var.get l).2.1, .int .i64 (Var.get l).2.2]) ∧ Below w.heap.size w w' := by
  have hn := hb.len
  have hmax := hb.max
  have HN := Lib.hid hn
  go_enter Try.func47, Try.ntmps47
  clear hn
  go_wp2
  go_loop [3, 4, 5] (fun nv pv iv => ∃ (k a p : Nat), k ≤ n ∧ k ≤ 9 ∧ iv = .int .i64 k ∧ nv = .int .u64 a ∧ pv = .int .u64 p ∧ Hid (p = 128 ^ k) ∧ Hid (Var.get l = Var.getF (l.drop k) k a ∧ a < 128 ^ k)) (fun _ _ iv => n - (intOf iv).toNat)
  case atStart => exact ⟨0, 0, 1, by omega, by omega, rfl, rfl, rfl, rfl, rfl, by simp⟩
  case round =>
    obtain ⟨k, a, p, hk, hk9, rfl, rfl, rfl, HP, HG⟩ := hrel
    by_cases hlt : k < n
    · obtain ⟨ad, rfl⟩ := hb.addr (by omega)
      have hkl : k < l.length := by have := HN.out; omega
      have hc0 := (hb.alloc (.cells #[.int .u64 0, .int .i64 0, .int .i64 0] 95)).cell hkl
      have hstep := HG.out.1
      rw [getF_step hkl] at hstep
      have hby0 : l[k].toNat < 256 := l[k].toNat_lt
      obtain ⟨d, hd⟩ : ∃ d, d = l[k].toNat := ⟨_, rfl⟩
      rw [← hd] at hc0 hstep hby0
      have HS := Lib.hid hstep
      have HA := Lib.hid HG.out.2
      clear hstep hd HG
      by_cases h9 : k = 9 ∧ 1 < d
      · have h9b : ((k : Int) == 9) = true := by simp; omega
        have hc9 : (w.alloc (.cells #[.int .u64 0, .int .i64 0, .int .i64 0] 95)).cell? ⟨ad.block, ad.off + 9, none⟩ = some (.int .u8 (d : Int)) := by
          have := hc0; rw [h9.1, Addr.add_succ'] at this; exact this
        have hd1 := h9.2
        have HS2 := HS.out
        rw [if_pos h9] at HS2
        have HS3 := Lib.hid HS2
        clear HS2 HS h9
        have HS4 := HS3
        go_wp2
        all_goals refine bodyPost_ret (v := .agg #[.int .u64 0, .int .i64 0, .int .i64 4]) (by simp [results, Try.results47, go_sem]) rfl ⟨retA3 (by rw [HS4.out]; rfl) (by rw [HS4.out]; rfl) (by rw [HS4.out]; rfl), (Below.refl _ _).alloc (Nat.le_refl _) _⟩
      · have HS2 := HS.out
        rw [if_neg h9] at HS2
        have HS3 := Lib.hid HS2
        clear HS2 HS
        by_cases hk : k = 9
        · have h9b : ((k : Int) == 9) = true := by simp; omega
          have hc9 : (w.alloc (.cells #[.int .u64 0, .int .i64 0, .int .i64 0] 95)).cell? ⟨ad.block, ad.off + 9, none⟩ = some (.int .u8 (d : Int)) := by
            have := hc0; rw [hk, Addr.add_succ'] at this; exact this
          have HK := Lib.hid hk
          have hd : d ≤ 1 := by omega
          have hd128 : (d : Int) < 128 := by omega
          have hdm : (d : Int) % 128 ≤ 1 := by omega
          have HO := Lib.hid (mul_step a d p k HA.out (by omega) (by omega) (by omega) HP.out)
          clear h9 hk
          go_wp2
          · have HS4 := HS3.out
            rw [if_pos ⟨by omega, by omega⟩] at HS4
            have HS4 := Lib.hid HS4
            refine bodyPost_ret (v := .agg #[.int .u64 0, .int .i64 0, .int .i64 3]) (by simp [results, Try.results47, go_sem]) rfl ⟨retA3 (by rw [HS4.out]; rfl) (by rw [HS4.out]; rfl) (by rw [HS4.out]; rfl), (Below.refl _ _).alloc (Nat.le_refl _) _⟩
          · have := HK.out; omega
          · have HS4 := HS3.out
            rw [if_neg (by omega), if_pos (by omega)] at HS4
            have HS4 := Lib.hid HS4
            refine bodyPost_ret (v := .agg #[.int .u64 (IntKind.u64.wrap ((a : Int) + IntKind.u64.wrap ((d : Int) % 128 * (p : Int)))), .int .i64 ((k : Int) + 1), .int .i64 0]) (by simp [results, Try.results47, go_sem]) rfl ⟨retA3 (by rw [HS4.out]; exact HO.out) (by rw [HS4.out]; rfl) (by rw [HS4.out]; rfl), (Below.refl _ _).alloc (Nat.le_refl _) _⟩
        · have HK := Lib.hid hk
          have h9b : ((k : Int) == 9) = false := by simp; omega
          have HO := Lib.hid (mul_step a d p k HA.out (by omega) (by omega) (by omega) HP.out)
          have HPL := Lib.hid (place_step p k HP.out (by omega))
          clear h9 hk
          go_wp2
          · have HS4 := HS3.out
            rw [if_pos ⟨by omega, by omega⟩] at HS4
            have HS4 := Lib.hid HS4
            refine bodyPost_ret (v := .agg #[.int .u64 0, .int .i64 0, .int .i64 3]) (by simp [results, Try.results47, go_sem]) rfl ⟨retA3 (by rw [HS4.out]; rfl) (by rw [HS4.out]; rfl) (by rw [HS4.out]; rfl), (Below.refl _ _).alloc (Nat.le_refl _) _⟩
          · have HS4 := HS3.out
            rw [if_neg (by omega), if_pos (by omega)] at HS4
            have HS4 := Lib.hid HS4
            refine bodyPost_ret (v := .agg #[.int .u64 (IntKind.u64.wrap (a : Int)), .int .i64 ((k : Int) + 1), .int .i64 0]) (by simp [results, Try.results47, go_sem]) rfl ⟨retA3 (by rw [HS4.out]; exact wrap_zero a d k HA.out hk9 (by omega)) (by rw [HS4.out]; rfl) (by rw [HS4.out]; rfl), (Below.refl _ _).alloc (Nat.le_refl _) _⟩
          · have HS4 := HS3.out
            rw [if_neg (by omega), if_pos (by omega)] at HS4
            have HS4 := Lib.hid HS4
            refine bodyPost_ret (v := .agg #[.int .u64 (IntKind.u64.wrap ((a : Int) + IntKind.u64.wrap ((d : Int) % 128 * (p : Int)))), .int .i64 ((k : Int) + 1), .int .i64 0]) (by simp [results, Try.results47, go_sem]) rfl ⟨retA3 (by rw [HS4.out]; exact HO.out) (by rw [HS4.out]; rfl) (by rw [HS4.out]; rfl), (Below.refl _ _).alloc (Nat.le_refl _) _⟩
          · have HS4 := HS3.out
            rw [if_neg (by omega), if_neg (by omega)] at HS4
            go_round
            case rel => exact ⟨k + 1, _, _, by omega, by have := HK.out; omega, by go_num, by rw [HO.out], by rw [HPL.out], rfl, HS4, acc_lt HA.out⟩
            case measure => simp [intOf]; omega
    · go_wp2
      have HS4 : Hid (Var.get l = (0, 0, 2)) := by
        unfold Hid
        rw [HG.out.1, List.drop_of_length_le (by have := HN.out; omega)]; rfl
      refine bodyPost_ret (v := .agg #[.int .u64 0, .int .i64 0, .int .i64 2]) (by simp [results, Try.results47, go_sem]) rfl ⟨retA3 (by rw [HS4.out]; rfl) (by rw [HS4.out]; rfl) (by rw [HS4.out]; rfl), (Below.refl _ _).alloc (Nat.le_refl _) _⟩
end Go.Proofs.Ytcoilgfjabnoeaa
