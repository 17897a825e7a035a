/- FramePuts: the walk. -/
import Derived.Test.YtcoilgfjabnoeaaFl1
import Derived.Test.YtcoilgfjabnoeaaOpr
namespace Go.Proofs.Ytcoilgfjabnoeaa
open Go.RowKit

theorem put_len (B : Nat) : ∀ (ls : List (List UInt8)), (∀ b ∈ ls, b.length ≤ B) → (Fr.put ls).length ≤ ls.length * (B + 10)
  | [], _ => by simp [Fr.put]
  | b :: ls, h => by
    have ih := put_len B ls (fun x hx => h x (by simp [hx]))
    have h1 := h b (by simp)
    have h2 := Var.put_length b.length
    simp only [Fr.put, List.length_append, List.length_cons, Nat.add_mul]
    omega
theorem put_pos {ls : List (List UInt8)} (h : 0 < ls.length) : 0 < (Fr.put ls).length := by
  cases ls with
  | nil => simp at h
  | cons b ls => have h2 := Var.put_length b.length; simp only [Fr.put, List.length_append]; omega

set_option maxRecDepth 1000000 in
set_option maxHeartbeats 4000000 in
theorem frameputs_any (ls : List (List UInt8)) (A : Option Addr) (n c cut : Nat) (w : World) (hb : Bss w A n c ls) (hcut : cut < 65536) :
    Calls Try.prog 6 #[.slice A n c, .int .u16 cut] w fun e w' => e = .returned (.bool true) ∧ Below w.heap.size w w' := by
  have hcut1 : (cut : Int) ≤ 100000 := by omega
  have hmx := hb.max
  clear hcut
  by_cases h20 : n ≤ 20
  · have d1 : decide ((20 : Int) < n) = false := by simp; omega
    by_cases h0 : n = 0
    · have d2 : ((n : Int) == 0) = true := by subst h0; rfl
      clear h0
      go_enter Try.func6, Try.ntmps6
      go_wp2_with fail
      refine (frwakes_any w).mono ?_
      rintro e w1 ⟨rfl, hb1⟩
      go_wp2
      go_ret
      exact ⟨rfl, hb1⟩
    · have d2 : ((n : Int) == 0) = false := by rw [beq_eq_false_iff_ne]; omega
      have hn0 : 0 < n := by omega
      have hl := hb.len
      have HL := Lib.hid hl
      clear h0 hl
      obtain ⟨ad, rfl⟩ := hb.addr hn0
      go_enter Try.func6, Try.ntmps6
      go_wp2_with fail
      refine (frwakes_any w).mono ?_
      rintro e w1 ⟨rfl, hb1⟩
      have hbs1 := hb.below hb1
      go_wp2
      go_loop [28] (fun iv => ∃ k : Nat, iv = .int .i64 k ∧ k ≤ n ∧ Hid (∀ j (h : j < ls.length), j < k → ls[j].length ≤ 300)) (fun iv => n - (intOf iv).toNat)
      case atStart => exact ⟨0, rfl, by omega, fun j h h2 => by omega⟩
      case round =>
        obtain ⟨k, rfl, hk, HA⟩ := hrel
        by_cases hlt : k < n
        · obtain ⟨A5, m5, c5, hc5, hb5⟩ := hbs1.cell (k := k) (by have := HL.out; omega)
          have hm5 := hb5.len
          by_cases h3 : m5 ≤ 300
          · have d3 : decide ((300 : Int) < m5) = false := by simp; omega
            have HA2 : Hid (∀ j (h : j < ls.length), j < k + 1 → ls[j].length ≤ 300) := fun j h h2 => by
              by_cases e : j = k
              · subst e; omega
              · exact HA.out j h (by omega)
            clear hm5 hb5
            go_wp2
            go_round
            case rel => exact ⟨k + 1, by go_num, by omega, HA2⟩
            case measure => simp [intOf]; omega
          · have d3 : decide ((300 : Int) < m5) = true := by simp; omega
            clear hm5 hb5
            go_wp2
            go_ret
            exact ⟨rfl, hb1⟩
        · have hall : ∀ b ∈ ls, b.length ≤ 300 := fun b hb => by
            obtain ⟨j, hj, rfl⟩ := List.getElem_of_mem hb
            exact HA.out j hj (by have := HL.out; omega)
          have hlen := put_len 300 ls hall
          have hpos := put_pos (ls := ls) (by have := HL.out; omega)
          have hsp := Fr.split_put ls (fun b hb => by have := hall b hb; omega)
          have hcu := fun k => Fr.split_cut ls k (fun b hb => by have := hall b hb; omega)
          have hlen2 : (Fr.put ls).length ≤ 6200 := by have := HL.out; omega
          have HS := Lib.hid (And.intro hsp (And.intro hcu hpos))
          clear hall hlen hsp hcu hpos HA
          go_wp2_with fail
          refine (frput_any ls (some ad) n c w1 hbs1 (by omega)).mono ?_
          rintro e w2 ⟨A2, N, c2, rfl, hown2, hb2⟩
          have hN := own_len hown2
          have hs2 := own_bs hown2
          have hbs2 := hbs1.below hb2
          have hB2 := hb1.trans (hb2.mono hb1.size)
          have hN2 : N ≤ 6200 := by omega
          have hN0 : 0 < N := by have := HS.out.2.2; omega
          have HN := Lib.hid hN
          clear hN hown2 hb2
          go_wp2_with fail
          refine (frsplit_any (Fr.put ls) A2 N c2 w2 hs2 (by omega)).mono ?_
          rintro e w3 ⟨A3, n3, c3, rfl, hk3, hb3⟩
          rw [HS.out.1] at hk3 ⊢
          replace hk3 : Bss w3 A3 n3 c3 ls := hk3
          have hs3 := hs2.below hb3
          have hbs3 := hbs2.below hb3
          have hB3 := hB2.trans (hb3.mono hB2.size)
          obtain rfl : n3 = n := by have := hk3.len; have := HL.out; omega
          clear hb3
          go_wp2_with fail
          refine (frrefput_any ls (some ad) n3 c w3 hbs3 (by omega)).mono ?_
          rintro e w4 ⟨A4, n4, c4, rfl, hown4, hb4⟩
          have hs4 := hs3.below hb4
          have hbs4 := hbs3.below hb4
          have hk4 := hk3.below hb4
          have hB4 := hB3.trans (hb4.mono hB3.size)
          clear hb4
          go_wp2_with fail
          refine (same_any (Fr.put ls) (Fr.put ls) A2 A4 N c2 n4 c4 w4 hs4 (own_bs hown4)).mono ?_
          rintro e w5 ⟨rfl, q5, rfl⟩
          have hdd : decide (Fr.put ls = Fr.put ls) = true := by simp
          have dn : ((n3 : Int) != (n3 : Int)) = false := by simp
          have hs5 := hs4.drewN q5
          have hbs5 := hbs4.drewN q5
          have hk5 := hk4.drewN q5
          have hB5 := below_drewN hB4 q5
          generalize w4.drewN q5 = w5 at *
          obtain ⟨bd, rfl⟩ := hk5.addr (by omega)
          go_wp2
          go_loopw [61] (fun iv wr => ∃ k : Nat, iv = .int .i64 k ∧ k ≤ n3 ∧ ∃ q, wr = w5.drewN q) (fun iv _ => n3 - (intOf iv).toNat)
          case atStart => exact ⟨0, rfl, by omega, 0, rfl⟩
          case round =>
            obtain ⟨k, rfl, hk, q, rfl⟩ := hrel
            have hwq1 := hs5.drewN q
            have hwq2 := hbs5.drewN q
            have hwq3 := hk5.drewN q
            have hwq4 := below_drewN hB5 q
            generalize hwq : w5.drewN q = wq at *
            have HQ := Lib.hid hwq
            clear hwq
            by_cases hlt : k < n3
            · obtain ⟨A6, m6, c6, hc6, hb6⟩ := hwq3.cell (k := k) (by have := HL.out; omega)
              obtain ⟨A7, m7, c7, hc7, hb7⟩ := hwq2.cell (k := k) (by have := HL.out; omega)
              generalize ls[k]'(by have := HL.out; omega) = x at *
              have hx : decide (x = x) = true := by simp
              go_wp2
              go_quiet ((go_at_call 23; exact Calls.quiet_of (same_any x x A6 A7 m6 c6 m7 c7 _ (hb6.drewN _) (hb7.drewN _))))
              go_wp2
              go_roundw
              case rel => exact ⟨k + 1, by go_num, by omega, q + nq, by rw [← HQ.out, World.drewN_drewN]⟩
              case measure => simp [intOf]; omega
            · obtain ⟨t, ht⟩ : ∃ t, t = cut % N := ⟨_, rfl⟩
              have htm : (cut : Int) % (N : Int) = (t : Int) := by rw [ht, Int.natCast_emod]
              have htN : t ≤ N := by have := Nat.mod_lt cut hN0; omega
              have hcap := hwq1.2.1
              have ht0 : (0 : Int) ≤ (t : Int) := by omega
              have ht1 : (t : Int) ≤ (c2 : Int) := by omega
              have ht2 : (t : Int) ≤ (N : Int) := by omega
              have hNi : (1 : Int) ≤ (N : Int) := by omega
              clear ht
              have hut : Bs wq A2 t c2 ((Fr.put ls).take t) := by
                have := Rd.upto hwq1 htN
                rw [Nat.mul_one, bval_take] at this
                exact this
              have hc2 := HS.out.2.1 t
              go_wp2_with fail
              refine (frsplit_any ((Fr.put ls).take t) A2 t c2 wq hut (by omega)).mono ?_
              rintro e w6 ⟨A6, n6, c6, rfl, hk6, hb6⟩
              have hut6 := hut.below hb6
              have hB6 := hwq4.trans (hb6.mono hwq4.size)
              go_wp2_with fail
              refine (frrefsplit_any ((Fr.put ls).take t) A2 t c2 w6 hut6 (by omega)).mono ?_
              rintro e w7 ⟨A7, n7, c7, rfl, hk7, hb7⟩
              have hB7 := hB6.trans (hb7.mono hB6.size)
              generalize Fr.split ((Fr.put ls).take t) = f at *
              clear hk6 hk7 hb6 hb7
              rcases hc2 with hz | hz
              · rw [hz]
                clear hz
                go_wp2
                go_ret
                exact ⟨rfl, hB7⟩
              · rw [hz]
                clear hz
                go_wp2
                go_ret
                exact ⟨rfl, hB7⟩
  · have d1 : decide ((20 : Int) < n) = true := by simp; omega
    go_enter Try.func6, Try.ntmps6
    go_wp2_with fail
    refine (frwakes_any w).mono ?_
    rintro e w1 ⟨rfl, hb1⟩
    go_wp2
    go_ret
    exact ⟨rfl, hb1⟩
end Go.Proofs.Ytcoilgfjabnoeaa
