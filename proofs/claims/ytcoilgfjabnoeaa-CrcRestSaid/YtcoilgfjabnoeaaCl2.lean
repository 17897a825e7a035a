/- CrcRest: the walk. -/
import Derived.Test.YtcoilgfjabnoeaaCl1
import Derived.Test.YtcoilgfjabnoeaaCrcy
namespace Go.Proofs.Ytcoilgfjabnoeaa
open Go.RowKit

set_option maxHeartbeats 1000000 in
set_option maxRecDepth 100000 in
theorem crcrest_any (l : List UInt8) (A : Option Addr) (n c : Nat) (w : World) (hb : Bs w A n c l) :
    Calls Try.prog 8 #[.slice A n c] w fun e w' => e = .returned (.bool true) ∧ Below w.heap.size w w' := by
  by_cases h : n ≤ 2000
  · have d1 : decide ((2000 : Int) < n) = false := by simp; omega
    go_enter Try.func8, Try.ntmps8
    go_wp2_with fail
    refine (cwakes_any w).mono ?_
    rintro e w1 ⟨rfl, hb1⟩
    have hbs1 := hb.below hb1
    go_wp2_with fail
    refine (seal_any l A n c w1 hbs1 (by omega)).mono ?_
    rintro e w2 ⟨A2, n2, c2, rfl, hown, hb2⟩
    go_wp2_with fail
    refine (of_any (Crc.sealed l) A2 n2 c2 w2 (own_bs hown)).mono ?_
    rintro e w3 ⟨rfl, hb3⟩
    rw [Crc.rest]
    go_wp2
    go_ret
    have h12 := hb1.trans (hb2.mono hb1.size)
    exact ⟨rfl, h12.trans (hb3.mono h12.size)⟩
  · have d1 : decide ((2000 : Int) < n) = true := by simp; omega
    go_enter Try.func8, Try.ntmps8
    go_wp2_with fail
    refine (cwakes_any w).mono ?_
    rintro e w1 ⟨rfl, hb1⟩
    go_wp2
    go_ret
    exact ⟨rfl, hb1⟩
end Go.Proofs.Ytcoilgfjabnoeaa
