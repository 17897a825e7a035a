/- CrcBursts: the walk. -/
import Derived.Test.YtcoilgfjabnoeaaCl1
import Derived.Test.YtcoilgfjabnoeaaCrcy
import Derived.Test.YtcoilgfjabnoeaaCrcb
namespace Go.Proofs.Ytcoilgfjabnoeaa
open Go.RowKit

theorem burst_unsealed {l q : List UInt8} {t b : Nat} (hl : q.length = (Crc.sealed l).length) (hb : b < 4294967296) (ht : t ≤ 8 * (Crc.sealed l).length)
    (hx : Crc.num q = Crc.num (Crc.sealed l) ^^^ ((2 ^ t * b) % 2 ^ (8 * (Crc.sealed l).length))) (hne : q ≠ Crc.sealed l) : sealedB q = false := by
  rw [Bool.eq_false_iff]
  intro h
  unfold sealedB at h
  simp only [Bool.and_eq_true, decide_eq_true_eq] at h
  obtain ⟨h4, hs⟩ := h
  have hp : (q.take (q.length - 4)).length = l.length := by rw [List.length_take, hl, Crc.sealed_length]; omega
  have hm : (2 ^ t * b) % 2 ^ (8 * (Crc.sealed l).length) = 2 ^ t * (b % 2 ^ (8 * (Crc.sealed l).length - t)) := by
    rw [show 8 * (Crc.sealed l).length = t + (8 * (Crc.sealed l).length - t) by omega, Nat.pow_add, Nat.mul_mod_mul_left, Nat.add_sub_cancel_left]
  rw [hm] at hx
  have := Crc.burst (p := l) (q := q.take (q.length - 4)) hp.symm (Nat.lt_of_le_of_lt (Nat.mod_le b _) hb) ht (by rw [hs]; exact hx)
  exact hne (by rw [this, hs])

set_option maxHeartbeats 2000000 in
set_option maxRecDepth 100000 in
theorem crcbursts_any (l : List UInt8) (A : Option Addr) (n c a b : Nat) (w : World) (hb : Bs w A n c l) (ha : a < 65536) (hbb : b < 4294967296) :
    Calls Try.prog 11 #[.slice A n c, .int .u16 a, .int .u32 b] w fun e w' => e = .returned (.bool true) ∧ Below w.heap.size w w' := by
  have HA := Lib.hid (And.intro ha hbb)
  have ha1 : (a : Int) ≤ 100000 := by omega
  clear ha hbb
  by_cases h : n ≤ 2000
  · have d1 : decide ((2000 : Int) < n) = false := by simp; omega
    have hl := hb.len
    have HL := Lib.hid hl
    clear hl
    go_enter Try.func11, Try.ntmps11
    go_wp2_with fail
    refine (cwakes_any w).mono ?_
    rintro e w1 ⟨rfl, hb1⟩
    have hbs1 := hb.below hb1
    go_wp2_with fail
    refine (seal_any l A n c w1 hbs1 (by omega)).mono ?_
    rintro e w2 ⟨A2, N, c2, rfl, hown2, hb2⟩
    have hN : N = (Crc.sealed l).length := own_len hown2
    have hN2 : N ≤ 2004 := by rw [hN, Crc.sealed_length]; have := HL.out; omega
    have HN := Lib.hid hN
    have hB2 := hb1.trans (hb2.mono hb1.size)
    have hs2 := own_bs hown2
    clear hN hown2 hb2 hbs1
    obtain ⟨t, ht⟩ : ∃ t, t = a % (8 * N + 1) := ⟨_, rfl⟩
    have htm : (a : Int) % (8 * (N : Int) + 1) = (t : Int) := by rw [ht, Int.natCast_emod, Int.natCast_add, Int.natCast_mul]; rfl
    have ht8 : t ≤ 8 * N := by have := Nat.mod_lt a (show 8 * N + 1 > 0 by omega); omega
    clear ht
    go_wp2_with fail
    refine (burst_any (Crc.sealed l) A2 N c2 t b w2 hs2 (by omega) (by omega) HA.out.2).mono ?_
    rintro e w3 ⟨q, A3, c3, rfl, hq1, hq2, hown3, hb3⟩
    have hs3 := hs2.below hb3
    have hq3 := own_bs hown3
    have hB3 := hB2.trans (hb3.mono hB2.size)
    have HQ := Lib.hid (And.intro hq1 hq2)
    clear hq1 hq2 hown3 hb3 hs2
    go_wp2_with fail
    refine (same_any q (Crc.sealed l) A3 A2 N c3 N c2 w3 hq3 hs3).mono ?_
    rintro e w4 ⟨rfl, k4, rfl⟩
    by_cases heq : q = Crc.sealed l
    · have hd : decide (q = Crc.sealed l) = true := decide_eq_true heq
      clear heq
      go_wp2
      go_ret
      exact ⟨rfl, below_drewN hB3 _⟩
    · have hd : decide (q = Crc.sealed l) = false := decide_eq_false heq
      have hu := burst_unsealed HQ.out.1 HA.out.2 (by rw [← HN.out]; exact ht8) HQ.out.2 heq
      clear heq
      go_wp2_with fail
      refine (sealed_any q A3 N c3 (w3.drewN k4) (hq3.drewN k4) (by omega)).mono ?_
      rintro e w5 ⟨A5, n5, c5, rfl, hx5, hb5⟩
      rw [hu]
      clear hu
      go_wp2
      go_ret
      have hB4 := below_drewN hB3 k4
      exact ⟨rfl, hB4.trans (hb5.mono hB4.size)⟩
  · have d1 : decide ((2000 : Int) < n) = true := by simp; omega
    go_enter Try.func11, Try.ntmps11
    go_wp2_with fail
    refine (cwakes_any w).mono ?_
    rintro e w1 ⟨rfl, hb1⟩
    go_wp2
    go_ret
    exact ⟨rfl, hb1⟩
end Go.Proofs.Ytcoilgfjabnoeaa
