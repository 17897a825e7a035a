/- Frames: the example holds; FrameSplits. -/
import Derived.Test.YtcoilgfjabnoeaaFrt
import Derived.Test.YtcoilgfjabnoeaaFry
import Derived.Test.YtcoilgfjabnoeaaFrz
import Derived.Test.YtcoilgfjabnoeaaSame
namespace Go.Proofs.Ytcoilgfjabnoeaa
open Go.RowKit

theorem put_ex : Fr.put [[97], []] = [1, 97, 0] := by decide +kernel
set_option maxRecDepth 1000000 in
set_option maxHeartbeats 1000000 in
theorem frwakes_any (w : World) : Calls Try.prog 20 #[] w fun e w' => e = .returned (.bool true) ∧ Below w.heap.size w w' := by
  go_enter Try.func20, Try.ntmps20
  go_wp2_with fail
  have hb0 : Bs (w.alloc (.cells #[.int .u8 97] 5)) (some ⟨w.heap.size, 0, none⟩) 1 1 [97] := Rd.new w 5 (bval [97]) (by simp [bval, maxLen])
  have hbss : Bss ((w.alloc (.cells #[.int .u8 97] 5)).alloc (.cells #[.slice (some ⟨w.heap.size, 0, none⟩) 1 1, .slice none 0 0] 22)) (some ⟨w.heap.size + 1, 0, none⟩) 2 2 [[97], []] := by
    refine ⟨_, Rd.newAt (w.alloc (.cells #[.int .u8 97] 5)) 22 [.slice (some ⟨w.heap.size, 0, none⟩) 1 1, .slice none 0 0] (by simp [maxLen]) (w.heap.size + 1) (by simp), ?_⟩
    exact ((Els.nil _ _).snoc (hb0.alloc _) (fun _ _ _ h => h)).snoc (Rd.nil _ 1) (fun _ _ _ h => h)
  refine (frput_any [[97], []] _ _ _ _ hbss (by rw [put_ex]; decide)).mono ?_
  rintro e w1 ⟨A1, n1, c1, rfl, hown1, hB1⟩
  rw [put_ex] at hown1
  go_wp2_with fail
  refine (same_any [1, 97, 0] [1, 97, 0] _ _ _ _ _ _ _ ((own_bs hown1).alloc _) (Rd.new w1 5 (bval [1, 97, 0]) (by simp [bval, maxLen]))).mono ?_
  rintro e w2 ⟨rfl, k, rfl⟩
  have hd : decide (([1, 97, 0] : List UInt8) = [1, 97, 0]) = true := by decide
  go_wp2
  go_ret
  have h2 : Below w.heap.size w w1 := (((Below.refl _ _).alloc (Nat.le_refl _) _).alloc (by simp) _).trans (hB1.mono (by simp; omega))
  have := h2.size
  refine ⟨rfl, ?_⟩
  (repeat' (first | (with_reducible exact Below.refl _ _) | (with_reducible assumption) | (with_reducible refine below_later' ?_ ?_ _ _) | (with_reducible refine Below.alloc ?_ ?_ _) | (with_reducible refine Below.setCell ?_ ?_ _) | (with_reducible refine Below.drew ?_) | (with_reducible refine below_drewN ?_ _) | (with_reducible exact Nat.le_refl _) | omega | (simp; done) | (simp; omega)))

set_option maxRecDepth 1000000 in
set_option maxHeartbeats 2000000 in
theorem framesplits_any (l : List UInt8) (A : Option Addr) (n c : Nat) (w : World) (hb : Bs w A n c l) :
    Calls Try.prog 5 #[.slice A n c] w fun e w' => e = .returned (.bool true) ∧ Below w.heap.size w w' := by
  by_cases h : n ≤ 500
  · have d1 : decide ((500 : Int) < n) = false := by simp; omega
    have hl := hb.len
    have HL := Lib.hid hl
    clear hl
    go_enter Try.func5, Try.ntmps5
    go_wp2_with fail
    refine (frwakes_any w).mono ?_
    rintro e w1 ⟨rfl, hb1⟩
    have hbs1 := hb.below hb1
    go_wp2_with fail
    refine (frsplit_any l A n c w1 hbs1 (by omega)).mono ?_
    rintro e w2 ⟨A2, n2, c2, rfl, hs2, hb2⟩
    have hbs2 := hbs1.below hb2
    have hB2 := hb1.trans (hb2.mono hb1.size)
    go_wp2_with fail
    refine (frrefsplit_any l A n c w2 hbs2 (by omega)).mono ?_
    rintro e w3 ⟨A3, n3, c3, rfl, hs3, hb3⟩
    have hbs3 := hbs2.below hb3
    have hs23 := hs2.below hb3
    have hB3 := hB2.trans (hb3.mono hB2.size)
    have hput := fun h => Fr.put_of_split (l := l) h
    have hok := fun h => Fr.put_ok (l := l) h
    generalize Fr.split l = f at *
    have hn2 : n2 = f.1.length := hs23.len
    have hn3 : n3 = f.1.length := hs3.len
    obtain rfl : n3 = n2 := by omega
    have HN := Lib.hid hn2
    have HP := Lib.hid (And.intro hput hok)
    have de : ((f.2 : Int) != (f.2 : Int)) = false := by simp
    have dn : ((n3 : Int) != (n3 : Int)) = false := by simp
    have hmx := hs3.max
    clear hput hok hn2 hn3 hs2 hbs1 hbs2 hb2 hb3 hb1 hB2
    go_wp2
    go_loopw [35] (fun iv wr => ∃ k : Nat, iv = .int .i64 k ∧ k ≤ n3 ∧ ∃ q, wr = w3.drewN q) (fun iv _ => n3 - (intOf iv).toNat)
    case atStart => exact ⟨0, rfl, by omega, 0, rfl⟩
    case round =>
      obtain ⟨k, rfl, hk, q, rfl⟩ := hrel
      by_cases hlt : k < n3
      · obtain ⟨ad, rfl⟩ := hs23.addr (by omega)
        obtain ⟨bd, rfl⟩ := hs3.addr (by omega)
        obtain ⟨A5, m5, c5, hc5, hb5⟩ := hs23.cell (k := k) (by have := HN.out; omega)
        obtain ⟨A6, m6, c6, hc6, hb6⟩ := hs3.cell (k := k) (by have := HN.out; omega)
        generalize f.1[k]'(by have := HN.out; omega) = x at *
        have hx : decide (x = x) = true := by simp
        have hb5 := hb5.drewN q
        have hb6 := hb6.drewN q
        have hc5 : (w3.drewN q).cell? (ad.add k) = some (.slice A5 m5 c5) := hc5
        have hc6 : (w3.drewN q).cell? (bd.add k) = some (.slice A6 m6 c6) := hc6
        generalize hwq : w3.drewN q = wq at *
        have HQ := Lib.hid hwq
        clear hwq
        go_wp2
        go_quiet ((go_at_call 23; exact Calls.quiet_of (same_any x x A5 A6 m5 c5 m6 c6 _ (hb5.drewN _) (hb6.drewN _))))
        go_wp2
        go_roundw
        case rel => exact ⟨k + 1, by go_num, by omega, q + nq, by rw [← HQ.out, World.drewN_drewN]⟩
        case measure => simp [intOf]; omega
      · by_cases he : f.2 = 0
        · have hde : ((f.2 : Int) != 0) = false := by rw [he]; rfl
          have hpl := HP.out.1 he
          have HPL := Lib.hid hpl
          have hlen : (Fr.put f.1).length ≤ 100000000 := by rw [hpl]; have := HL.out; omega
          clear he hpl
          go_wp2_with fail
          refine (frput_any f.1 A2 n3 c2 _ (hs23.drewN q) hlen).mono ?_
          rintro e w5 ⟨A5, n5, c5, rfl, hown5, hb5⟩
          rw [HPL.out] at hown5
          go_wp2_with fail
          refine (same_any l l A5 A n5 c5 n c w5 (own_bs hown5) ((hbs3.drewN q).below hb5)).mono ?_
          rintro e w6 ⟨rfl, q6, rfl⟩
          have hx : decide (l = l) = true := by simp
          go_wp2
          go_ret
          have hq := below_drewN hB3 q
          exact ⟨rfl, below_drewN (hq.trans (hb5.mono hq.size)) _⟩
        · have hde : ((f.2 : Int) != 0) = true := by rw [bne_iff_ne]; omega
          clear he
          go_wp2
          go_ret
          exact ⟨rfl, below_drewN hB3 _⟩
  · have d1 : decide ((500 : Int) < n) = true := by simp; omega
    go_enter Try.func5, Try.ntmps5
    go_wp2_with fail
    refine (frwakes_any w).mono ?_
    rintro e w1 ⟨rfl, hb1⟩
    go_wp2
    go_ret
    exact ⟨rfl, hb1⟩
end Go.Proofs.Ytcoilgfjabnoeaa
