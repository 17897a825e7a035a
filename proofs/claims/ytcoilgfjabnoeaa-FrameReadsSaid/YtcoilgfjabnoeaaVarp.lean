/- Varints: what tabulariumref04.Put computes. -/
import Derived.Test.YtcoilgfjabnoeaaVarw
namespace Go.Proofs.Ytcoilgfjabnoeaa
open Go.RowKit

set_option maxRecDepth 100000 in
set_option maxHeartbeats 400000 in
theorem refput_any (n : Nat) (w : World) (h : n < 18446744073709551616) :
    Calls Try.prog 44 #[.int .u64 n] w (Owned w 5 (bval (Var.put n))) := by
  obtain ⟨i0, hi, hz0, hz1, hz2⟩ := info_parts infoU8
  have hlen := Var.put_length n
  go_enter Try.func44, Try.ntmps44
  go_wp2
  go_loopw [0, 3] (fun nv v wr => ∃ (m k : Nat) (p : List UInt8) (A : Option Addr) (c : Nat), nv = .int .u64 m ∧ m < 18446744073709551616 ∧ Hid (p ++ Var.putF k m = Var.put n ∧ m < 2 * 128 ^ k ∧ p.length + k = 9) ∧ p.length ≤ 9 ∧ v = .slice A p.length c ∧
    wr.ownsRow w.heap.size 5 1 (.slice A p.length c) p.length (bval p) ∧ Below w.heap.size w wr) (fun nv _ _ => (intOf nv).toNat)
  case atStart => exact ⟨n, 9, [], _, _, rfl, h, ⟨rfl, by simpa using h, rfl⟩, by simp, rfl, World.ownsRow_nil _ _ _ _, Below.refl _ _⟩
  case round =>
    obtain ⟨m, k, p, A, c, rfl, hm, HP, hp9, rfl, hown, hbel⟩ := hrel
    by_cases hlt : m < 128
    · go_wp2_with (first
        | (at_builtin
           refine wpList_append_rd _ rfl _ _ _ rfl w.heap.size 5 i0 _ 1 1 Try.underlying22 hi hz0 hz1 hz2 rfl (by omega) _ _ _ (hown.alloc _) rfl _ _ _ _ (Rd.new1 _ _ _) rfl (by simp [Value.oneCell']) (by unfold maxLen; omega) (by omega) (hbel.alloc hbel.size _).size _ rfl _ rfl ?_
           intro A2 c2 w2 hown2 hg2 _))
      go_ret
      refine ⟨A2, p.length + 1, c2, rfl, ?_, below_append (hbel.alloc hbel.size _) (hown.alloc _) hg2 (Nat.le_refl _) (hbel.alloc hbel.size _).size⟩
      have h1 := HP.out.1
      rw [Var.putF_small k m hlt] at h1
      rw [← h1, bval_append, bval_ofNat m (by omega)]
      exact hown2
    · obtain ⟨h1, h2, h3⟩ := HP.out
      have hk : 0 < k := by
        rcases Nat.eq_zero_or_pos k with h0 | h0
        · subst h0; simp at h2; omega
        · exact h0
      obtain ⟨k, rfl⟩ : ∃ j, k = j + 1 := ⟨k - 1, by omega⟩
      rw [Var.putF_large k m (by omega)] at h1
      have HP2 : Hid ((p ++ [UInt8.ofNat (m % 128 + 128)]) ++ Var.putF k (m / 128) = Var.put n ∧ m / 128 < 2 * 128 ^ k ∧ (p ++ [UInt8.ofNat (m % 128 + 128)]).length + k = 9) := by
        refine ⟨by rw [← h1]; simp, ?_, by simp; omega⟩
        rw [Nat.pow_succ] at h2; omega
      have h9 : p.length ≤ 8 := by omega
      have hwr : ((m : Int) % 128 + 128) % 256 = (m : Int) % 128 + 128 := by omega
      clear h1 h2 h3 HP
      go_wp2_with (first
        | (at_builtin
           refine wpList_append_rd _ rfl _ _ _ rfl w.heap.size 5 i0 _ 1 1 Try.underlying22 hi hz0 hz1 hz2 rfl (by omega) _ _ _ (hown.alloc _) rfl _ _ _ _ (Rd.new1 _ _ _) rfl (by simp [Value.oneCell']) (by unfold maxLen; omega) (by omega) (hbel.alloc hbel.size _).size _ rfl _ rfl ?_
           intro A2 c2 w2 hown2 hg2 _))
      go_roundw
      case rel =>
        refine ⟨m / 128, k, p ++ [UInt8.ofNat (m % 128 + 128)], A2, c2, by go_num, by omega, HP2, by simp; omega, by simp, ?_, below_append (hbel.alloc hbel.size _) (hown.alloc _) hg2 (Nat.le_refl _) (hbel.alloc hbel.size _).size⟩
        rw [bval_append, bval_ofNat _ (by omega), List.length_append]
        exact hown2
      case measure => simp [intOf]; omega
end Go.Proofs.Ytcoilgfjabnoeaa
