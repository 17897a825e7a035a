/- VarintGets: the walk. -/
import Derived.Test.YtgahgljfdoedjaaVcuts
namespace Go.Proofs.Ytgahgljfdoedjaa
open Go.RowKit

set_option maxRecDepth 100000 in
set_option maxHeartbeats 400000 in
theorem vgets_any (l : List UInt8) (A : Option Addr) (n c : Nat) (w : World) (hb : Bs w A n c l) :
    Calls Try.prog 4 #[.slice A n c] w fun e w' => e = .returned (.bool true) ∧ Below w.heap.size w w' := by
  have hnl := hb.len
  have HN := Lib.hid hnl
  have hnc := hb.2.1
  clear hnl
  by_cases h1000 : n ≤ 1000
  · obtain ⟨g, hg⟩ : ∃ g, g = Var.get l := ⟨_, rfl⟩
    obtain ⟨N, Sz, E⟩ := g
    have hcase := Var.getF_cases l 0 0
    have HG := Lib.hid hg
    go_enter Try.func4, Try.ntmps4
    clear hg
    go_wp2_with fail
    refine (vwakes_any _).mono ?_
    rintro e w1 ⟨rfl, hb1⟩
    have hbs1 := hb.below hb1
    go_wp2_with fail
    have hc := get_any l A n c w1 hbs1
    rw [← HG.out] at hc
    refine hc.mono ?_
    rintro e w2 ⟨rfl, rfl⟩
    clear hc
    go_wp2_with fail
    have hc := refget_any l A n c w1 hbs1
    rw [← HG.out] at hc
    refine hc.mono ?_
    rintro e w2 ⟨rfl, hb2⟩
    clear hc
    have hbs2 := hbs1.below hb2
    by_cases hE : E = 0
    · subst hE
      obtain ⟨hput, hsz, hN, hs1⟩ := Var.put_get HG.out.symm
      have hszn : Sz ≤ n := by have := HN.out; omega
      have HP := Lib.hid hput
      have hbt := (hbs2.upto hszn)
      rw [← hput] at hbt
      have hs0 : (0 : Int) ≤ Sz := by omega
      have hs2 : (Sz : Int) ≤ c := by omega
      clear hput hcase
      go_upto_region 9 with (fail)
      have hbt3 := hbt.alloc (.cells #[.int .u64 (N : Int), .int .i64 (Sz : Int), .int .i64 0] 33)
      have hb3 := (hb1.trans (hb2.mono hb1.size)).alloc (Nat.le_trans hb1.size hb2.size) (.cells #[.int .u64 (N : Int), .int .i64 (Sz : Int), .int .i64 0] 33)
      generalize w2.alloc (.cells #[.int .u64 (N : Int), .int .i64 (Sz : Int), .int .i64 0] 33) = W at hbt3 hb3 ⊢
      go_region_held3 (fun w' => Below W.heap.size W w')
        (first
          | exact (Below.refl _ _).drew
          | exact Below.trans (by assumption) (hb5.mono (Below.size (by assumption)))
          | exact below_drewN (by assumption) _)
        (first
          | (go_at_call 9
             refine (put_any N _ hN).mono ?_
             rintro e w5 ⟨P5, n5, c5, rfl, hown5, hb5⟩)
          | (go_at_call 11
             refine (same_any _ _ _ _ _ _ _ _ _ (Bs.of_own hown5) (hbt3.below (by assumption))).mono ?_
             rintro e w6 ⟨rfl, k6, rfl⟩))
      have hdec : decide (Var.put N = Var.put N) = true := by simp
      go_wp2
      go_ret
      exact ⟨rfl, hb3.trans ((by assumption : Below W.heap.size W _).mono hb3.size)⟩
    · have hE1 : ((E : Int) != 0) = true := by rw [bne_iff_ne]; omega
      have H0 := Lib.hid hE
      clear hE hcase
      go_upto_region 9 with (fail)
      go_quiet (fail)
      go_wp2
      go_ret
      exact ⟨rfl, below_drewN ((hb1.trans (hb2.mono hb1.size)).alloc (Nat.le_trans hb1.size hb2.size) _) _⟩
  · go_enter Try.func4, Try.ntmps4
    go_wp2_with fail
    refine (vwakes_any _).mono ?_
    rintro e w1 ⟨rfl, hb1⟩
    go_wp2_with fail
    go_ret
    exact ⟨rfl, hb1⟩
end Go.Proofs.Ytgahgljfdoedjaa
