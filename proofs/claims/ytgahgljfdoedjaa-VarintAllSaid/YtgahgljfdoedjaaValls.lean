/- VarintAll: the walk. -/
import Derived.Test.YtgahgljfdoedjaaVsame
import Derived.Test.YtgahgljfdoedjaaVwakes
namespace Go.Proofs.Ytgahgljfdoedjaa
open Go.RowKit

set_option maxRecDepth 100000 in
set_option maxHeartbeats 1000000 in
theorem valls_any (l : List UInt8) (xs : List Nat) (A B : Option Addr) (n c m d stop : Nat) (w : World) (hb : Bs w A n c l) (hx : Rd w 1 B m d (nval .u64 xs)) (hxs : ∀ x ∈ xs, x < 18446744073709551616) (hstop : stop < 256) :
    Calls Try.prog 7 #[.slice A n c, .slice B m d, .int .u8 stop] w fun e w' => e = .returned (.bool true) ∧ Below w.heap.size w w' := by
  have hm : m = xs.length := by have := Rd.len hx; simpa [nval] using this
  have HM := Lib.hid hm
  clear hm
  by_cases h : n ≤ 300 ∧ m ≤ 60
  · obtain ⟨h1, h2⟩ := h
    have d1 : decide ((300 : Int) < n) = false := by simp; omega
    have d2 : decide ((60 : Int) < m) = false := by simp; omega
    go_enter Try.func7, Try.ntmps7
    go_wp2_with fail
    refine (vwakes_any _).mono ?_
    rintro e w1 ⟨rfl, hb1⟩
    have hbs1 := hb.below hb1
    have hx1 := hx.below hb1
    go_wp2_with fail
    refine (vtold_any l A n c stop _ hbs1 (by omega)).mono ?_
    rintro e w2 ⟨A2, n2, c2, rfl, hown2, hb2⟩
    have hbs2 := hbs1.below hb2
    have hx2 := hx1.below hb2
    go_wp2_with fail
    refine (refall_any l A n c _ hbs2 (by omega)).mono ?_
    rintro e w3 ⟨A3, n3, c3, rfl, hown3, hb3⟩
    have hx3 := hx2.below hb3
    go_wp2_with fail
    refine (vsame_any _ _ _ _ _ _ _ _ _ _ ((Rd.of_own hown2).below hb3) (Rd.of_own hown3) (by omega)).mono ?_
    rintro e w4 ⟨rfl, k4, rfl⟩
    have hdec : decide ((Var.all l).take stop = (Var.all l).take stop) = true := by simp
    go_wp2_with fail
    refine (list_any xs B m d _ (Rd.drewN hx3 k4) hxs (by omega)).mono ?_
    rintro e w5 ⟨A5, n5, c5, rfl, hown5, hb5⟩
    have hx5 := (Rd.drewN hx3 k4).below hb5
    go_wp2_with fail
    refine (vtold_any (Var.list xs) A5 n5 c5 99 _ (Bs.of_own hown5) (by omega)).mono ?_
    rintro e w6 ⟨A6, n6, c6, rfl, hown6, hb6⟩
    have hx6 := hx5.below hb6
    go_wp2_with fail
    refine (vsame_any _ _ _ _ _ _ _ _ 99 _ (Rd.of_own hown6) hx6 (by omega)).mono ?_
    rintro e w7 ⟨rfl, k7, rfl⟩
    have hdec2 : decide ((Var.all (Var.list xs)).take 99 = xs.take 99) = true := by rw [Var.all_list xs hxs]; simp
    go_wp2
    go_ret
    refine ⟨rfl, below_drewN ?_ _⟩
    have e3 := (hb1.trans (hb2.mono hb1.size)).trans (hb3.mono (Nat.le_trans hb1.size hb2.size))
    have e5 := (below_drewN e3 k4).trans (hb5.mono (below_drewN e3 k4).size)
    exact e5.trans (hb6.mono e5.size)
  · by_cases h1 : n ≤ 300
    · have h2 : ¬ m ≤ 60 := fun h2 => h ⟨h1, h2⟩
      have d1 : decide ((300 : Int) < n) = false := by simp; omega
      have d2 : decide ((60 : Int) < m) = true := by simp; omega
      clear h
      go_enter Try.func7, Try.ntmps7
      go_wp2_with fail
      refine (vwakes_any _).mono ?_
      rintro e w1 ⟨rfl, hb1⟩
      go_wp2_with fail
      go_ret
      exact ⟨rfl, hb1⟩
    · have d1 : decide ((300 : Int) < n) = true := by simp; omega
      clear h
      go_enter Try.func7, Try.ntmps7
      go_wp2_with fail
      refine (vwakes_any _).mono ?_
      rintro e w1 ⟨rfl, hb1⟩
      go_wp2_with fail
      go_ret
      exact ⟨rfl, hb1⟩
end Go.Proofs.Ytgahgljfdoedjaa
