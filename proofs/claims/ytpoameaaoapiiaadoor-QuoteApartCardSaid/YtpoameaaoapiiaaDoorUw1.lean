/- utf: what scalar and first compute. -/
import Derived.Test.YtpoameaaoapiiaaDoorChecked
import Derived.Test.YtpoameaaoapiiaaDoorForms
import Derived.Test.YtpoameaaoapiiaaDoorUtf
import Derived.Lib.Walk
import Derived.Lib.BitFns
import Derived.Lib.Strings
import Derived.Handy
namespace Go.Proofs.YtpoameaaoapiiaaDoor
open Go.RowKit

/-- Is a number a scalar? -/
def scalarI (c : Int) : Bool := decide (0 ≤ c) && Utf.scalar c.toNat
theorem scalarI_nat (c : Nat) : scalarI (c : Int) = Utf.scalar c := by simp [scalarI]
theorem scalarI_eq (c : Int) : scalarI c = decide (0 ≤ c ∧ c < 1114112 ∧ (c < 55296 ∨ 57343 < c)) := by
  rw [Bool.eq_iff_iff]
  simp only [scalarI, Utf.scalar, Bool.and_eq_true, decide_eq_true_eq]
  omega
set_option maxHeartbeats 400000 in
set_option maxRecDepth 100000 in
theorem scalar_any (c : Int) (w : World) : Calls Tryd.prog 39 #[.int .i64 c] w fun e w' => e = .returned (.bool (scalarI c)) ∧ w = w' := by
  go_enter Tryd.func39, Tryd.ntmps39
  go_wp2
  all_goals (go_ret; refine ⟨congrArg Ending.returned (congrArg Value.bool ?_), rfl⟩)
  all_goals (rw [scalarI_eq])
  · rw [← Bool.decide_or, decide_eq_decide]; omega
  · exact (decide_eq_true (by omega)).symm
  · exact (decide_eq_false (by omega)).symm
  · exact (decide_eq_false (by omega)).symm

/-- The form of a first byte: which one, and is there one. -/
def firstK (b : Nat) : Nat := if 240 ≤ b ∧ b < 248 then 3 else if 224 ≤ b ∧ b < 240 then 2 else if 192 ≤ b ∧ b < 224 then 1 else 0
def firstOk (b : Nat) : Bool := decide (b < 128 ∨ 192 ≤ b ∧ b < 248)
def formAt (k : Nat) : Value := .agg #[.int .i64 (formsL.getD (3 * k) 0), .int .i64 (formsL.getD (3 * k + 1) 0), .int .i64 (formsL.getD (3 * k + 2) 0)]
theorem first_bits : ∀ b : Fin 256, (bits .and .i64 (b.val : Int) (bits .or .i64 240 120) == 240) = decide (240 ≤ b.val ∧ b.val < 248) ∧
    (bits .and .i64 (b.val : Int) (bits .or .i64 224 112) == 224) = decide (224 ≤ b.val ∧ b.val < 240) ∧ (bits .and .i64 (b.val : Int) (bits .or .i64 192 96) == 192) = decide (192 ≤ b.val ∧ b.val < 224) := by decide +kernel
set_option maxHeartbeats 1000000 in
set_option maxRecDepth 100000 in
theorem first_any (b : Nat) (w : World) (hb : b < 256) (hF : Forms w) : Calls Tryd.prog 49 #[.int .i64 b] w fun e w' =>
    e = .returned (.tuple #[formAt (firstK b), .bool (firstOk b)]) ∧ Below w.heap.size w w' := by
  have hG := hF.1
  obtain ⟨t3, t2, t1⟩ := first_bits ⟨b, hb⟩
  simp only at t3 t2 t1
  have f := fun j hj => hF.2 j hj
  have f0 := f 0 (by omega)
  have f1 := f 1 (by omega)
  have f2 := f 2 (by omega)
  have f3 := f 3 (by omega)
  have f4 := f 4 (by omega)
  have f5 := f 5 (by omega)
  have f6 := f 6 (by omega)
  have f7 := f 7 (by omega)
  have f8 := f 8 (by omega)
  have f9 := f 9 (by omega)
  have f10 := f 10 (by omega)
  have f11 := f 11 (by omega)
  simp only [formsL, List.getD_cons_zero, List.getD_cons_succ] at f0 f1 f2 f3 f4 f5 f6 f7 f8 f9 f10 f11
  clear f
  go_enter Tryd.func49, Tryd.ntmps49
  go_wp2
  go_rounds 5
  all_goals (go_returns; try (refine ⟨?_, by go_grown⟩))
  · rw [show firstK b = 3 by unfold firstK; repeat' split
                             all_goals omega, show firstOk b = true by unfold firstOk; exact decide_eq_true (by omega)]; rfl
  · rw [show firstK b = 2 by unfold firstK; repeat' split
                             all_goals omega, show firstOk b = true by unfold firstOk; exact decide_eq_true (by omega)]; rfl
  · rw [show firstK b = 1 by unfold firstK; repeat' split
                             all_goals omega, show firstOk b = true by unfold firstOk; exact decide_eq_true (by omega)]; rfl
  · rw [show firstK b = 0 by unfold firstK; repeat' split
                             all_goals omega, show firstOk b = decide ((b : Int) < 128) by unfold firstOk; rw [decide_eq_decide]; omega]; rfl
end Go.Proofs.YtpoameaaoapiiaaDoor
