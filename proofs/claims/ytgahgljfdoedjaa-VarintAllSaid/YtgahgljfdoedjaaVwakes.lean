/- Varints: the examples hold. -/
import Derived.Test.YtgahgljfdoedjaaSame
import Derived.Test.YtgahgljfdoedjaaVarg
import Derived.Test.YtgahgljfdoedjaaVarp
import Derived.Test.YtgahgljfdoedjaaVarh
namespace Go.Proofs.Ytgahgljfdoedjaa
open Go.RowKit

theorem put300 : Var.put 300 = [172, 2] := by decide +kernel
theorem get80 : Var.get [128, 0] = (0, 0, 3) := by decide +kernel
set_option maxRecDepth 100000 in
set_option maxHeartbeats 400000 in
theorem vwakes_any (w : World) : Calls Try.prog 8 #[] w fun e w' => e = .returned (.bool true) ∧ Below w.heap.size w w' := by
  go_enter Try.func8, Try.ntmps8
  go_wp2_with fail
  refine (get_any [128, 0] _ _ _ _ (Rd.new w 5 (bval [128, 0]) (by simp [bval, maxLen]))).mono ?_
  rintro e w1 ⟨rfl, rfl⟩
  go_wp2_with fail
  refine (put_any 300 _ (by omega)).mono ?_
  rintro e w1 ⟨A, n, c, rfl, hown, hb1⟩
  go_wp2_with fail
  refine (same_any (Var.put 300) [172, 2] _ _ _ _ _ _ _ ((Bs.of_own hown).alloc _) (Rd.new w1 5 (bval [172, 2]) (by simp [bval, maxLen]))).mono ?_
  rintro e w2 ⟨rfl, k, rfl⟩
  have h1 : decide (Var.put 300 = [172, 2]) = true := by rw [put300]; decide
  have hg : (Var.get [128, 0]).2.2 = 3 := by rw [get80]
  go_wp2
  go_ret
  exact ⟨rfl, below_drewN (((((Below.refl _ _).alloc (Nat.le_refl _) _).trans (hb1.mono (by simp))).alloc (by have := hb1.size; simp at this; omega) _)) _⟩
end Go.Proofs.Ytgahgljfdoedjaa
