/- CrcSeals: the walk. -/
import Derived.Test.YtcoilgfjabnoeaaCl1
import Derived.Test.YtcoilgfjabnoeaaCrcy
import Derived.Test.YtcoilgfjabnoeaaCrcz
namespace Go.Proofs.Ytcoilgfjabnoeaa
open Go.RowKit

theorem sealedB_sealed (l : List UInt8) : sealedB (Crc.sealed l) = true := by
  unfold sealedB
  rw [Crc.sealed_length, Nat.add_sub_cancel, show (Crc.sealed l).take l.length = l from by unfold Crc.sealed; rw [List.take_left]]
  simp
theorem unsealed_sealed (l : List UInt8) : unsealed (Crc.sealed l) = l := by
  unfold unsealed
  rw [sealedB_sealed, if_pos rfl, Crc.sealed_length, Nat.add_sub_cancel]
  unfold Crc.sealed
  rw [List.take_left]

set_option maxHeartbeats 2000000 in
set_option maxRecDepth 100000 in
theorem crcseals_any (l : List UInt8) (A : Option Addr) (n c : Nat) (w : World) (hb : Bs w A n c l) :
    Calls Try.prog 10 #[.slice A n c] w fun e w' => e = .returned (.bool true) ∧ Below w.heap.size w w' := by
  by_cases h : n ≤ 2000
  · have d1 : decide ((2000 : Int) < n) = false := by simp; omega
    have hl := hb.len
    have HL := Lib.hid hl
    clear hl
    go_enter Try.func10, Try.ntmps10
    go_wp2_with fail
    refine (cwakes_any w).mono ?_
    rintro e w1 ⟨rfl, hb1⟩
    have hbs1 := hb.below hb1
    go_wp2_with fail
    refine (seal_any l A n c w1 hbs1 (by omega)).mono ?_
    rintro e w2 ⟨A2, n2, c2, rfl, hown2, hb2⟩
    have hn2 : n2 = n + 4 := by have h1 := own_len hown2; rw [Crc.sealed_length] at h1; have := HL.out; omega
    subst hn2
    have hbs2 := hbs1.below hb2
    have hB2 := hb1.trans (hb2.mono hb1.size)
    have hs2 := own_bs hown2
    clear hown2 hb2 hbs1
    go_wp2_with fail
    refine (sealed_any (Crc.sealed l) A2 (n + 4) c2 w2 hs2 (by omega)).mono ?_
    rintro e w3 ⟨A3, n3, c3, rfl, hx3, hb3⟩
    rw [unsealed_sealed] at hx3
    rw [sealedB_sealed]
    have hbs3 := hbs2.below hb3
    have hs3 := hs2.below hb3
    have hB3 := hB2.trans (hb3.mono hB2.size)
    clear hb3 hbs2 hs2
    go_wp2_with fail
    refine (sealed_any l A n c w3 hbs3 (by omega)).mono ?_
    rintro e w4 ⟨A4, n4, c4, rfl, hy4, hb4⟩
    have hbs4 := hbs3.below hb4
    have hs4 := hs3.below hb4
    have hx4 := hx3.below hb4
    have hB4 := hB3.trans (hb4.mono hB3.size)
    clear hb4 hbs3 hs3 hx3
    by_cases h4 : n < 4
    · have hge : decide ((4 : Int) ≤ n) = false := by simp; omega
      have hsB : sealedB l = false := by unfold sealedB; rw [decide_eq_false (by have := HL.out; omega)]; rfl
      have hu : unsealed l = [] := by unfold unsealed; rw [hsB]; rfl
      rw [hu] at hy4
      obtain rfl : n4 = 0 := by have := hy4.len; simpa using this
      clear hu
      rw [hsB]
      clear hsB
      go_wp2_with fail
      refine (refseal_any l A n c w4 hbs4 (by omega)).mono ?_
      rintro e w7 ⟨A7, n7, c7, rfl, hown7, hb7⟩
      go_wp2_with fail
      refine (same_any (Crc.sealed l) (Crc.sealed l) A2 A7 (n + 4) c2 n7 c7 w7 (hs4.below hb7) (own_bs hown7)).mono ?_
      rintro e w8 ⟨rfl, q8, rfl⟩
      have ht8 : decide (Crc.sealed l = Crc.sealed l) = true := by simp
      go_wp2_with fail
      refine (same_any l l A3 A n3 c3 n c (w7.drewN q8) ((hx4.below hb7).drewN q8) ((hbs4.below hb7).drewN q8)).mono ?_
      rintro e w9 ⟨rfl, q9, rfl⟩
      have ht9 : decide (l = l) = true := by simp
      go_wp2
      go_ret
      exact ⟨rfl, below_drewN (hB4.trans (hb7.mono hB4.size)) _⟩
    · have hge : decide ((4 : Int) ≤ n) = true := by simp; omega
      have hcap := hb.2.1
      obtain ⟨k, rfl⟩ : ∃ k, n = k + 4 := ⟨n - 4, by omega⟩
      have hs1 : (((k + 4 : Nat) : Int) - 4) = (k : Int) := by omega
      have hl4 : l.length - 4 = k := by have := HL.out; omega
      have hbk : Bs w4 A k c (l.take k) := by
        have := Rd.upto hbs4 (k := k) (by omega)
        rw [Nat.mul_one, bval_take] at this
        exact this
      have hk0 : (0 : Int) ≤ (k : Int) := by omega
      have hkc : (k : Int) ≤ (c : Int) := by omega
      go_wp2_with fail
      refine (refseal_any (l.take k) A k c w4 hbk (by omega)).mono ?_
      rintro e w5 ⟨A5, n5, c5, rfl, hown5, hb5⟩
      have hbs5 := hbs4.below hb5
      have hs5 := hs4.below hb5
      have hx5 := hx4.below hb5
      have hbk5 := hbk.below hb5
      have hy5 := hy4.below hb5
      have hB5 := hB4.trans (hb5.mono hB4.size)
      go_wp2_with fail
      refine (same_any (Crc.sealed (l.take k)) l A5 A n5 c5 (k + 4) c w5 (own_bs hown5) hbs5).mono ?_
      rintro e w6 ⟨rfl, q6, rfl⟩
      have hbs6 := hbs5.drewN q6
      have hs6 := hs5.drewN q6
      have hx6 := hx5.drewN q6
      have hbk6 := hbk5.drewN q6
      have hy6 := hy5.drewN q6
      have hB6 := below_drewN hB5 q6
      clear hown5 hb5 hbs5 hs5 hx5 hbk5 hy5 hB5 hbs4 hs4 hx4 hbk hy4 hB4
      generalize w5.drewN q6 = w6 at *
      have hsB0 : sealedB l = decide (Crc.sealed (l.take k) = l) := by unfold sealedB; rw [hl4, decide_eq_true (by have := HL.out; omega)]; rfl
      rw [hsB0]
      by_cases heq : Crc.sealed (l.take k) = l
      · have hu : unsealed l = l.take k := by unfold unsealed; rw [hsB0, decide_eq_true heq, hl4]; rfl
        rw [hu] at hy6
        rw [decide_eq_true heq]
        have HE := Lib.hid heq
        clear hu hsB0 heq hl4
        go_wp2_with fail
        refine (refseal_any l A (k + 4) c w6 hbs6 (by omega)).mono ?_
        rintro e w7 ⟨A7, n7, c7, rfl, hown7, hb7⟩
        go_wp2_with fail
        refine (same_any (Crc.sealed l) (Crc.sealed l) A2 A7 (k + 4 + 4) c2 n7 c7 w7 (hs6.below hb7) (own_bs hown7)).mono ?_
        rintro e w8 ⟨rfl, q8, rfl⟩
        have ht8 : decide (Crc.sealed l = Crc.sealed l) = true := by simp
        go_wp2_with fail
        refine (same_any l l A3 A n3 c3 (k + 4) c (w7.drewN q8) ((hx6.below hb7).drewN q8) ((hbs6.below hb7).drewN q8)).mono ?_
        rintro e w9 ⟨rfl, q9, rfl⟩
        have ht9 : decide (l = l) = true := by simp
        go_wp2_with fail
        refine (same_any (l.take k) (l.take k) A4 A n4 c4 k c (w7.drewN (q8 + q9)) ((hy6.below hb7).drewN _) ((hbk6.below hb7).drewN _)).mono ?_
        rintro e w10 ⟨rfl, q10, rfl⟩
        have ht10 : decide (l.take k = l.take k) = true := by simp
        go_wp2
        go_ret
        exact ⟨rfl, below_drewN (hB6.trans (hb7.mono hB6.size)) _⟩
      · have hu : unsealed l = [] := by unfold unsealed; rw [hsB0, decide_eq_false heq]; rfl
        rw [hu] at hy6
        obtain rfl : n4 = 0 := by have := hy6.len; simpa using this
        rw [decide_eq_false heq]
        clear hu hsB0 heq hl4
        go_wp2_with fail
        refine (refseal_any l A (k + 4) c w6 hbs6 (by omega)).mono ?_
        rintro e w7 ⟨A7, n7, c7, rfl, hown7, hb7⟩
        go_wp2_with fail
        refine (same_any (Crc.sealed l) (Crc.sealed l) A2 A7 (k + 4 + 4) c2 n7 c7 w7 (hs6.below hb7) (own_bs hown7)).mono ?_
        rintro e w8 ⟨rfl, q8, rfl⟩
        have ht8 : decide (Crc.sealed l = Crc.sealed l) = true := by simp
        go_wp2_with fail
        refine (same_any l l A3 A n3 c3 (k + 4) c (w7.drewN q8) ((hx6.below hb7).drewN q8) ((hbs6.below hb7).drewN q8)).mono ?_
        rintro e w9 ⟨rfl, q9, rfl⟩
        have ht9 : decide (l = l) = true := by simp
        go_wp2
        go_ret
        exact ⟨rfl, below_drewN (hB6.trans (hb7.mono hB6.size)) _⟩
  · have d1 : decide ((2000 : Int) < n) = true := by simp; omega
    go_enter Try.func10, Try.ntmps10
    go_wp2_with fail
    refine (cwakes_any w).mono ?_
    rintro e w1 ⟨rfl, hb1⟩
    go_wp2
    go_ret
    exact ⟨rfl, hb1⟩
end Go.Proofs.Ytcoilgfjabnoeaa
