/- utf: what next computes. -/
import Derived.Test.YtpoameaaoapiiaaDoorUw1
import Derived.Test.YtpoameaaoapiiaaDoorUtf3
import Derived.Test.YtpoameaaoapiiaaDoorStr
namespace Go.Proofs.YtpoameaaoapiiaaDoor
open Go.RowKit

theorem formAt_0 : formAt 0 = .agg #[.int .i64 128, .int .i64 0, .int .i64 0] := rfl
theorem formAt_1 : formAt 1 = .agg #[.int .i64 2048, .int .i64 192, .int .i64 1] := rfl
theorem formAt_2 : formAt 2 = .agg #[.int .i64 65536, .int .i64 224, .int .i64 2] := rfl
theorem formAt_3 : formAt 3 = .agg #[.int .i64 1114112, .int .i64 240, .int .i64 3] := rfl
theorem and192 : ∀ n : Fin 256, (bits .and .u8 (n.val : Int) 192 != 128) = !(decide (128 ≤ n.val ∧ n.val < 192)) := by decide +kernel
theorem and63 : ∀ n : Fin 256, bits .and .u8 (n.val : Int) 63 = ((n.val % 64 : Nat) : Int) := by decide +kernel
theorem andnot : ∀ n : Fin 256, (192 ≤ n.val → n.val < 224 → bits .andNot .i64 (n.val : Int) 192 = ((n.val - 192 : Nat) : Int)) ∧ (224 ≤ n.val → n.val < 240 → bits .andNot .i64 (n.val : Int) 224 = ((n.val - 224 : Nat) : Int)) ∧
    (240 ≤ n.val → n.val < 248 → bits .andNot .i64 (n.val : Int) 240 = ((n.val - 240 : Nat) : Int)) ∧ bits .andNot .i64 (n.val : Int) 0 = (n.val : Int) := by decide +kernel

theorem i64_or_nat (a b : Nat) (ha : a < 9223372036854775808) (hb : b < 9223372036854775808) : bits .or .i64 (a : Int) (b : Int) = ((a ||| b : Nat) : Int) := by
  have hx : a ||| b < 2 ^ 63 := Nat.or_lt_two_pow (by omega) (by omega)
  show IntKind.i64.wrap ((BitVec.ofInt 64 (a : Int) ||| BitVec.ofInt 64 (b : Int)).toNat : Int) = _
  rw [BitVec.toNat_or, ofInt_u64 a (by omega), ofInt_u64 b (by omega), IntWalk.i64_in _ (by omega)]
theorem or6 (u x : Nat) (hu : u < 1048576) : bits .or .i64 ((u : Int) * 64) ((x : Int) % 64) = ((u * 64 + x % 64 : Nat) : Int) := by
  have e1 : (u : Int) * 64 = ((u * 64 : Nat) : Int) := by simp
  have e2 : (x : Int) % 64 = ((x % 64 : Nat) : Int) := by simp
  rw [e1, e2, i64_or_nat _ _ (by omega) (by omega)]
  congr 1
  rw [show u * 64 = u * 2 ^ 6 from rfl, ← Nat.shiftLeft_eq, Nat.shiftLeft_add_eq_or_of_lt (by omega)]
theorem next_out {c n : Int} {t : Nat × Nat} (h1 : c = t.1) (h2 : n = t.2) : Ending.returned (.tuple #[.int .i64 c, .int .i64 n]) = .returned (.tuple #[.int .i64 t.1, .int .i64 t.2]) := by rw [h1, h2]

set_option maxHeartbeats 1000000 in
set_option maxRecDepth 100000 in
theorem next_w2 (b x : UInt8) (l r : List UInt8) (w : World) (hF : Forms w) (hl : l = b :: x :: r) (hb : 192 ≤ b.toNat ∧ b.toNat < 224) : Calls Tryd.prog 47 #[.string (str l)] w fun e w' =>
    e = .returned (.tuple #[.int .i64 (Utf.next l).1, .int .i64 (Utf.next l).2]) ∧ Below w.heap.size w w' := by
  have HN := Lib.hid (Utf.next_two (x := x) (r := r) hb)
  rw [← hl] at HN
  have h0 : nth l 0 = (b.toNat : Int) := by rw [hl]; rfl
  have h1 : nth l 1 = (x.toNat : Int) := by rw [hl]; rfl
  have hlen : 2 ≤ l.length := by rw [hl]; simp
  have hne : (l == []) = false := by rw [hl]; rfl
  have hfk : firstK b.toNat = 1 := by unfold firstK; repeat' split
                                      all_goals omega
  have hfo : firstOk b.toNat = true := by unfold firstOk; exact decide_eq_true (by omega)
  have hx1 := x.toNat_lt
  have hcx1 : (bits .and .u8 (x.toNat : Int) 192 != 128) = !(Utf.cont x) := and192 ⟨x.toNat, hx1⟩
  have h631 := and63 ⟨x.toNat, hx1⟩
  have hand := (andnot ⟨b.toNat, by omega⟩).1 hb.1 hb.2
  simp only at hand h631
  clear hl
  generalize Utf.cont x = C1 at *
  generalize b.toNat = b0 at *
  generalize x.toNat = b1 at *
  have hu : b0 - 192 < 32 := by omega
  generalize b0 - 192 = u at *
  have ho1 := or6 u b1 (by omega)
  have hv1 : u * 64 + b1 % 64 < 2048 := by omega
  generalize u * 64 + b1 % 64 = v1 at *
  go_enter Tryd.func47, Tryd.ntmps47
  go_wp2_with fail
  refine (first_any b0 _ (by omega) hF).mono ?_
  rintro e w' ⟨rfl, hB⟩
  have hG := (hF.below hB).1
  have f0 := (hF.below hB).2 0 (by omega)
  have f1 := (hF.below hB).2 1 (by omega)
  have f2 := (hF.below hB).2 2 (by omega)
  simp only [formsL, List.getD_cons_zero, List.getD_cons_succ] at f0 f1 f2
  rw [hfk, hfo, formAt_1]
  go_wp2
  go_quiet (fail)
  go_wp2
  clear hfk hfo hand h0
  cases C1
  · go_rounds 3
    go_returns
    refine ⟨next_out ?_ ?_, (by repeat' (first | exact hB | refine below_drewN ?_ _ | refine Below.alloc ?_ ?_ _ | (have := hB.size; simp; omega)))⟩
    all_goals (rw [HN.out, if_neg (by simp)]; rfl)
  go_rounds 3
  by_cases hc0 : v1 < 128
  · go_rounds 3
    go_returns
    refine ⟨next_out ?_ ?_, (by repeat' (first | exact hB | refine below_drewN ?_ _ | refine Below.alloc ?_ ?_ _ | (have := hB.size; simp; omega)))⟩
    all_goals (rw [HN.out, if_neg (by omega)]; rfl)
  refine wp_loop_rounds 3 ?_
  rw [rounds_succ]
  go_wp2
  rw [rounds_succ]
  go_wp2_with fail
  refine (scalar_any _ _).mono ?_
  rintro e w' ⟨rfl, rfl⟩
  have hS := scalarI_nat v1
  by_cases hs : Utf.scalar v1 = true
  · rw [hs] at hS
    rw [hS]
    go_wp2
    go_quiet (fail)
    go_wp2
    go_returns
    refine ⟨next_out ?_ ?_, (by repeat' (first | exact hB | refine below_drewN ?_ _ | refine Below.alloc ?_ ?_ _ | (have := hB.size; simp; omega)))⟩
    all_goals (rw [HN.out, if_pos ⟨by trivial, by omega, hs⟩]; try rfl)
  · rw [Bool.not_eq_true] at hs
    rw [hs] at hS
    rw [hS]
    go_wp2
    go_returns
    refine ⟨next_out ?_ ?_, (by repeat' (first | exact hB | refine below_drewN ?_ _ | refine Below.alloc ?_ ?_ _ | (have := hB.size; simp; omega)))⟩
    all_goals (rw [HN.out, if_neg (by rw [hs]; simp)]; rfl)
set_option maxHeartbeats 1000000 in
set_option maxRecDepth 100000 in
theorem next_w3 (b x y : UInt8) (l r : List UInt8) (w : World) (hF : Forms w) (hl : l = b :: x :: y :: r) (hb : 224 ≤ b.toNat ∧ b.toNat < 240) : Calls Tryd.prog 47 #[.string (str l)] w fun e w' =>
    e = .returned (.tuple #[.int .i64 (Utf.next l).1, .int .i64 (Utf.next l).2]) ∧ Below w.heap.size w w' := by
  have HN := Lib.hid (Utf.next_three (x := x) (y := y) (r := r) hb)
  rw [← hl] at HN
  have h0 : nth l 0 = (b.toNat : Int) := by rw [hl]; rfl
  have h1 : nth l 1 = (x.toNat : Int) := by rw [hl]; rfl
  have h2 : nth l 2 = (y.toNat : Int) := by rw [hl]; rfl
  have hlen : 3 ≤ l.length := by rw [hl]; simp
  have hne : (l == []) = false := by rw [hl]; rfl
  have hfk : firstK b.toNat = 2 := by unfold firstK; repeat' split
                                      all_goals omega
  have hfo : firstOk b.toNat = true := by unfold firstOk; exact decide_eq_true (by omega)
  have hx1 := x.toNat_lt
  have hcx1 : (bits .and .u8 (x.toNat : Int) 192 != 128) = !(Utf.cont x) := and192 ⟨x.toNat, hx1⟩
  have h631 := and63 ⟨x.toNat, hx1⟩
  have hx2 := y.toNat_lt
  have hcx2 : (bits .and .u8 (y.toNat : Int) 192 != 128) = !(Utf.cont y) := and192 ⟨y.toNat, hx2⟩
  have h632 := and63 ⟨y.toNat, hx2⟩
  have hand := (andnot ⟨b.toNat, by omega⟩).2.1 hb.1 hb.2
  simp only at hand h631 h632
  clear hl
  generalize Utf.cont x = C1 at *
  generalize Utf.cont y = C2 at *
  generalize b.toNat = b0 at *
  generalize x.toNat = b1 at *
  generalize y.toNat = b2 at *
  have hu : b0 - 224 < 16 := by omega
  generalize b0 - 224 = u at *
  have ho1 := or6 u b1 (by omega)
  have hv1 : u * 64 + b1 % 64 < 1024 := by omega
  generalize u * 64 + b1 % 64 = v1 at *
  have ho2 := or6 v1 b2 (by omega)
  have hv2 : v1 * 64 + b2 % 64 < 65536 := by omega
  generalize v1 * 64 + b2 % 64 = v2 at *
  go_enter Tryd.func47, Tryd.ntmps47
  go_wp2_with fail
  refine (first_any b0 _ (by omega) hF).mono ?_
  rintro e w' ⟨rfl, hB⟩
  have hG := (hF.below hB).1
  have f0 := (hF.below hB).2 0 (by omega)
  have f1 := (hF.below hB).2 1 (by omega)
  have f2 := (hF.below hB).2 2 (by omega)
  have f3 := (hF.below hB).2 3 (by omega)
  have f4 := (hF.below hB).2 4 (by omega)
  have f5 := (hF.below hB).2 5 (by omega)
  simp only [formsL, List.getD_cons_zero, List.getD_cons_succ] at f0 f1 f2 f3 f4 f5
  rw [hfk, hfo, formAt_2]
  go_wp2
  go_quiet (fail)
  go_wp2
  clear hfk hfo hand h0
  cases C1
  · go_rounds 4
    go_returns
    refine ⟨next_out ?_ ?_, (by repeat' (first | exact hB | refine below_drewN ?_ _ | refine Below.alloc ?_ ?_ _ | (have := hB.size; simp; omega)))⟩
    all_goals (rw [HN.out, if_neg (by simp)]; rfl)
  cases C2
  · go_rounds 4
    go_returns
    refine ⟨next_out ?_ ?_, (by repeat' (first | exact hB | refine below_drewN ?_ _ | refine Below.alloc ?_ ?_ _ | (have := hB.size; simp; omega)))⟩
    all_goals (rw [HN.out, if_neg (by simp)]; rfl)
  go_rounds 4
  by_cases hc0 : v2 < 128
  · go_rounds 4
    go_returns
    refine ⟨next_out ?_ ?_, (by repeat' (first | exact hB | refine below_drewN ?_ _ | refine Below.alloc ?_ ?_ _ | (have := hB.size; simp; omega)))⟩
    all_goals (rw [HN.out, if_neg (by omega)]; rfl)
  by_cases hc1 : v2 < 2048
  · go_rounds 4
    go_returns
    refine ⟨next_out ?_ ?_, (by repeat' (first | exact hB | refine below_drewN ?_ _ | refine Below.alloc ?_ ?_ _ | (have := hB.size; simp; omega)))⟩
    all_goals (rw [HN.out, if_neg (by omega)]; rfl)
  refine wp_loop_rounds 4 ?_
  rw [rounds_succ]
  go_wp2
  rw [rounds_succ]
  go_wp2
  rw [rounds_succ]
  go_wp2_with fail
  refine (scalar_any _ _).mono ?_
  rintro e w' ⟨rfl, rfl⟩
  have hS := scalarI_nat v2
  by_cases hs : Utf.scalar v2 = true
  · rw [hs] at hS
    rw [hS]
    go_wp2
    go_quiet (fail)
    go_wp2
    go_returns
    refine ⟨next_out ?_ ?_, (by repeat' (first | exact hB | refine below_drewN ?_ _ | refine Below.alloc ?_ ?_ _ | (have := hB.size; simp; omega)))⟩
    all_goals (rw [HN.out, if_pos ⟨by trivial, by trivial, by omega, hs⟩]; try rfl)
  · rw [Bool.not_eq_true] at hs
    rw [hs] at hS
    rw [hS]
    go_wp2
    go_returns
    refine ⟨next_out ?_ ?_, (by repeat' (first | exact hB | refine below_drewN ?_ _ | refine Below.alloc ?_ ?_ _ | (have := hB.size; simp; omega)))⟩
    all_goals (rw [HN.out, if_neg (by rw [hs]; simp)]; rfl)
set_option maxHeartbeats 1000000 in
set_option maxRecDepth 1000000 in
theorem next_w4 (b x y z : UInt8) (l r : List UInt8) (w : World) (hF : Forms w) (hl : l = b :: x :: y :: z :: r) (hb : 240 ≤ b.toNat ∧ b.toNat < 248) : Calls Tryd.prog 47 #[.string (str l)] w fun e w' =>
    e = .returned (.tuple #[.int .i64 (Utf.next l).1, .int .i64 (Utf.next l).2]) ∧ Below w.heap.size w w' := by
  have HN := Lib.hid (Utf.next_four (x := x) (y := y) (z := z) (r := r) hb)
  rw [← hl] at HN
  have h0 : nth l 0 = (b.toNat : Int) := by rw [hl]; rfl
  have h1 : nth l 1 = (x.toNat : Int) := by rw [hl]; rfl
  have h2 : nth l 2 = (y.toNat : Int) := by rw [hl]; rfl
  have h3 : nth l 3 = (z.toNat : Int) := by rw [hl]; rfl
  have hlen : 4 ≤ l.length := by rw [hl]; simp
  have hne : (l == []) = false := by rw [hl]; rfl
  have hfk : firstK b.toNat = 3 := by unfold firstK; repeat' split
                                      all_goals omega
  have hfo : firstOk b.toNat = true := by unfold firstOk; exact decide_eq_true (by omega)
  have hx1 := x.toNat_lt
  have hcx1 : (bits .and .u8 (x.toNat : Int) 192 != 128) = !(Utf.cont x) := and192 ⟨x.toNat, hx1⟩
  have h631 := and63 ⟨x.toNat, hx1⟩
  have hx2 := y.toNat_lt
  have hcx2 : (bits .and .u8 (y.toNat : Int) 192 != 128) = !(Utf.cont y) := and192 ⟨y.toNat, hx2⟩
  have h632 := and63 ⟨y.toNat, hx2⟩
  have hx3 := z.toNat_lt
  have hcx3 : (bits .and .u8 (z.toNat : Int) 192 != 128) = !(Utf.cont z) := and192 ⟨z.toNat, hx3⟩
  have h633 := and63 ⟨z.toNat, hx3⟩
  have hand := (andnot ⟨b.toNat, by omega⟩).2.2.1 hb.1 hb.2
  simp only at hand h631 h632 h633
  clear hl
  generalize Utf.cont x = C1 at *
  generalize Utf.cont y = C2 at *
  generalize Utf.cont z = C3 at *
  generalize b.toNat = b0 at *
  generalize x.toNat = b1 at *
  generalize y.toNat = b2 at *
  generalize z.toNat = b3 at *
  have hu : b0 - 240 < 8 := by omega
  generalize b0 - 240 = u at *
  have ho1 := or6 u b1 (by omega)
  have hv1 : u * 64 + b1 % 64 < 512 := by omega
  generalize u * 64 + b1 % 64 = v1 at *
  have ho2 := or6 v1 b2 (by omega)
  have hv2 : v1 * 64 + b2 % 64 < 32768 := by omega
  generalize v1 * 64 + b2 % 64 = v2 at *
  have ho3 := or6 v2 b3 (by omega)
  have hv3 : v2 * 64 + b3 % 64 < 2097152 := by omega
  generalize v2 * 64 + b3 % 64 = v3 at *
  go_enter Tryd.func47, Tryd.ntmps47
  go_wp2_with fail
  refine (first_any b0 _ (by omega) hF).mono ?_
  rintro e w' ⟨rfl, hB⟩
  have hG := (hF.below hB).1
  have f0 := (hF.below hB).2 0 (by omega)
  have f1 := (hF.below hB).2 1 (by omega)
  have f2 := (hF.below hB).2 2 (by omega)
  have f3 := (hF.below hB).2 3 (by omega)
  have f4 := (hF.below hB).2 4 (by omega)
  have f5 := (hF.below hB).2 5 (by omega)
  have f6 := (hF.below hB).2 6 (by omega)
  have f7 := (hF.below hB).2 7 (by omega)
  have f8 := (hF.below hB).2 8 (by omega)
  simp only [formsL, List.getD_cons_zero, List.getD_cons_succ] at f0 f1 f2 f3 f4 f5 f6 f7 f8
  rw [hfk, hfo, formAt_3]
  go_wp2
  go_quiet (fail)
  go_wp2
  clear hfk hfo hand h0
  cases C1
  · go_rounds 5
    go_returns
    refine ⟨next_out ?_ ?_, (by repeat' (first | exact hB | refine below_drewN ?_ _ | refine Below.alloc ?_ ?_ _ | (have := hB.size; simp; omega)))⟩
    all_goals (rw [HN.out, if_neg (by simp)]; rfl)
  cases C2
  · go_rounds 5
    go_returns
    refine ⟨next_out ?_ ?_, (by repeat' (first | exact hB | refine below_drewN ?_ _ | refine Below.alloc ?_ ?_ _ | (have := hB.size; simp; omega)))⟩
    all_goals (rw [HN.out, if_neg (by simp)]; rfl)
  cases C3
  · go_rounds 5
    go_returns
    refine ⟨next_out ?_ ?_, (by repeat' (first | exact hB | refine below_drewN ?_ _ | refine Below.alloc ?_ ?_ _ | (have := hB.size; simp; omega)))⟩
    all_goals (rw [HN.out, if_neg (by simp)]; rfl)
  go_rounds 5
  by_cases hc0 : v3 < 128
  · go_rounds 5
    go_returns
    refine ⟨next_out ?_ ?_, (by repeat' (first | exact hB | refine below_drewN ?_ _ | refine Below.alloc ?_ ?_ _ | (have := hB.size; simp; omega)))⟩
    all_goals (rw [HN.out, if_neg (by omega)]; rfl)
  by_cases hc1 : v3 < 2048
  · go_rounds 5
    go_returns
    refine ⟨next_out ?_ ?_, (by repeat' (first | exact hB | refine below_drewN ?_ _ | refine Below.alloc ?_ ?_ _ | (have := hB.size; simp; omega)))⟩
    all_goals (rw [HN.out, if_neg (by omega)]; rfl)
  by_cases hc2 : v3 < 65536
  · go_rounds 5
    go_returns
    refine ⟨next_out ?_ ?_, (by repeat' (first | exact hB | refine below_drewN ?_ _ | refine Below.alloc ?_ ?_ _ | (have := hB.size; simp; omega)))⟩
    all_goals (rw [HN.out, if_neg (by omega)]; rfl)
  refine wp_loop_rounds 5 ?_
  rw [rounds_succ]
  go_wp2
  rw [rounds_succ]
  go_wp2
  rw [rounds_succ]
  go_wp2
  rw [rounds_succ]
  go_wp2_with fail
  refine (scalar_any _ _).mono ?_
  rintro e w' ⟨rfl, rfl⟩
  have hS := scalarI_nat v3
  by_cases hs : Utf.scalar v3 = true
  · rw [hs] at hS
    rw [hS]
    go_wp2
    go_quiet (fail)
    go_wp2
    go_returns
    refine ⟨next_out ?_ ?_, (by repeat' (first | exact hB | refine below_drewN ?_ _ | refine Below.alloc ?_ ?_ _ | (have := hB.size; simp; omega)))⟩
    all_goals (rw [HN.out, if_pos ⟨by trivial, by trivial, by trivial, by omega, hs⟩]; try rfl)
  · rw [Bool.not_eq_true] at hs
    rw [hs] at hS
    rw [hS]
    go_wp2
    go_returns
    refine ⟨next_out ?_ ?_, (by repeat' (first | exact hB | refine below_drewN ?_ _ | refine Below.alloc ?_ ?_ _ | (have := hB.size; simp; omega)))⟩
    all_goals (rw [HN.out, if_neg (by rw [hs]; simp)]; rfl)
set_option maxHeartbeats 1000000 in
set_option maxRecDepth 100000 in
theorem next_nil (w : World) : Calls Tryd.prog 47 #[.string (str [])] w fun e w' =>
    e = .returned (.tuple #[.int .i64 (Utf.next []).1, .int .i64 (Utf.next []).2]) ∧ Below w.heap.size w w' := by
  go_enter Tryd.func47, Tryd.ntmps47
  go_wp2
  go_returns
  exact ⟨rfl, Below.refl _ _⟩
set_option maxHeartbeats 1000000 in
set_option maxRecDepth 100000 in
theorem next_wn (b : UInt8) (l r : List UInt8) (w : World) (hF : Forms w) (hl : l = b :: r) (hfo : firstOk b.toNat = false) : Calls Tryd.prog 47 #[.string (str l)] w fun e w' =>
    e = .returned (.tuple #[.int .i64 (Utf.next l).1, .int .i64 (Utf.next l).2]) ∧ Below w.heap.size w w' := by
  have HN := Lib.hid (Utf.next_not (r := r) hfo)
  rw [← hl] at HN
  have h0 : nth l 0 = (b.toNat : Int) := by rw [hl]; rfl
  have hlen : 1 ≤ l.length := by rw [hl]; simp
  have hne : (l == []) = false := by rw [hl]; rfl
  have hfk : firstK b.toNat = 0 := by
    simp only [firstOk, decide_eq_false_iff_not] at hfo
    unfold firstK; repeat' split
    all_goals omega
  have hb := b.toNat_lt
  clear hl
  generalize b.toNat = b0 at *
  go_enter Tryd.func47, Tryd.ntmps47
  go_wp2_with fail
  refine (first_any b0 _ (by omega) hF).mono ?_
  rintro e w' ⟨rfl, hB⟩
  rw [hfk, hfo, formAt_0]
  go_wp2
  go_returns
  refine ⟨next_out ?_ ?_, (by repeat' (first | exact hB | refine below_drewN ?_ _ | refine Below.alloc ?_ ?_ _ | (have := hB.size; simp; omega)))⟩
  all_goals (rw [HN.out]; rfl)
set_option maxHeartbeats 1000000 in
set_option maxRecDepth 100000 in
theorem next_ws (b : UInt8) (k : Nat) (l r : List UInt8) (w : World) (hF : Forms w) (hl : l = b :: r) (hfo : firstOk b.toNat = true) (hfk : firstK b.toNat = k) (hk : r.length < k) : Calls Tryd.prog 47 #[.string (str l)] w fun e w' =>
    e = .returned (.tuple #[.int .i64 (Utf.next l).1, .int .i64 (Utf.next l).2]) ∧ Below w.heap.size w w' := by
  have HN := Lib.hid (Utf.next_short (b := b) (r := r) (by omega))
  rw [← hl] at HN
  have h0 : nth l 0 = (b.toNat : Int) := by rw [hl]; rfl
  have hlen : 1 ≤ l.length := by rw [hl]; simp
  have hlen2 : l.length ≤ k := by rw [hl, List.length_cons]; omega
  have hne : (l == []) = false := by rw [hl]; rfl
  have hk3 : k ≤ 3 := by rw [← hfk]; unfold firstK; repeat' split
                         all_goals omega
  have hb := b.toNat_lt
  clear hl
  generalize b.toNat = b0 at *
  go_enter Tryd.func47, Tryd.ntmps47
  go_wp2_with fail
  refine (first_any b0 _ (by omega) hF).mono ?_
  rintro e w' ⟨rfl, hB⟩
  have hG := hB.size
  rw [hfk, hfo]
  obtain rfl | rfl | rfl : k = 1 ∨ k = 2 ∨ k = 3 := by omega
  all_goals clear hfk
  · rw [formAt_1]
    go_wp2
    go_returns
    refine ⟨next_out ?_ ?_, (by repeat' (first | exact hB | refine below_drewN ?_ _ | refine Below.alloc ?_ ?_ _ | (have := hB.size; simp; omega)))⟩
    all_goals (rw [HN.out]; rfl)
  · rw [formAt_2]
    go_wp2
    go_returns
    refine ⟨next_out ?_ ?_, (by repeat' (first | exact hB | refine below_drewN ?_ _ | refine Below.alloc ?_ ?_ _ | (have := hB.size; simp; omega)))⟩
    all_goals (rw [HN.out]; rfl)
  · rw [formAt_3]
    go_wp2
    go_returns
    refine ⟨next_out ?_ ?_, (by repeat' (first | exact hB | refine below_drewN ?_ _ | refine Below.alloc ?_ ?_ _ | (have := hB.size; simp; omega)))⟩
    all_goals (rw [HN.out]; rfl)
set_option maxHeartbeats 1000000 in
set_option maxRecDepth 100000 in
theorem next_w1 (b : UInt8) (l r : List UInt8) (w : World) (hF : Forms w) (hl : l = b :: r) (hb : b.toNat < 128) : Calls Tryd.prog 47 #[.string (str l)] w fun e w' =>
    e = .returned (.tuple #[.int .i64 (Utf.next l).1, .int .i64 (Utf.next l).2]) ∧ Below w.heap.size w w' := by
  have HN := Lib.hid (Utf.next_one (r := r) hb)
  rw [← hl] at HN
  have h0 : nth l 0 = (b.toNat : Int) := by rw [hl]; rfl
  have hlen : 1 ≤ l.length := by rw [hl]; simp
  have hne : (l == []) = false := by rw [hl]; rfl
  have hnn : l ≠ [] := by rw [hl]; simp
  have hfk : firstK b.toNat = 0 := by
    unfold firstK; repeat' split
    all_goals omega
  have hfo : firstOk b.toNat = true := by unfold firstOk; exact decide_eq_true (by omega)
  have hand := (andnot ⟨b.toNat, by omega⟩).2.2.2
  simp only at hand
  clear hl
  generalize b.toNat = b0 at *
  go_enter Tryd.func47, Tryd.ntmps47
  go_wp2_with fail
  refine (first_any b0 _ (by omega) hF).mono ?_
  rintro e w' ⟨rfl, hB⟩
  rw [hfk, hfo, formAt_0]
  have hG := (hF.below hB).1
  have hS := scalarI_nat b0
  have hs : Utf.scalar b0 = true := Utf.scalar_iff.2 (by omega)
  rw [hs] at hS
  go_wp2
  go_quiet (fail)
  go_wp2
  clear hfk hfo hand h0
  refine wp_loop_rounds 2 ?_
  rw [rounds_succ]
  go_wp2
  refine wp_loop_rounds 2 ?_
  rw [rounds_succ]
  go_wp2_with fail
  refine (scalar_any _ _).mono ?_
  rintro e w' ⟨rfl, rfl⟩
  rw [hS]
  go_wp2
  go_quiet (fail)
  go_wp2
  go_returns
  refine ⟨next_out ?_ ?_, (by repeat' (first | exact hB | refine below_drewN ?_ _ | refine Below.alloc ?_ ?_ _ | (have := hB.size; simp; omega)))⟩
  all_goals (rw [HN.out]; try rfl)

theorem next_any (l : List UInt8) (w : World) (hF : Forms w) : Calls Tryd.prog 47 #[.string (str l)] w fun e w' =>
    e = .returned (.tuple #[.int .i64 (Utf.next l).1, .int .i64 (Utf.next l).2]) ∧ Below w.heap.size w w' := by
  match l with
  | [] => exact next_nil w
  | b :: r =>
    cases hfo : firstOk b.toNat with
    | false => exact next_wn b _ r w hF rfl hfo
    | true =>
      by_cases hs : r.length < firstK b.toNat
      · exact next_ws b _ _ r w hF rfl hfo rfl hs
      · simp only [firstOk, decide_eq_true_eq] at hfo
        by_cases h1 : b.toNat < 128
        · exact next_w1 b _ r w hF rfl h1
        · by_cases h2 : b.toNat < 224
          · have hk : firstK b.toNat = 1 := by unfold firstK; repeat' split
                                               all_goals omega
            rw [hk] at hs
            match r, hs with
            | x :: r, _ => exact next_w2 b x _ r w hF rfl (by omega)
            | [], hs => simp at hs
          · by_cases h3 : b.toNat < 240
            · have hk : firstK b.toNat = 2 := by unfold firstK; repeat' split
                                                 all_goals omega
              rw [hk] at hs
              match r, hs with
              | x :: y :: r, _ => exact next_w3 b x y _ r w hF rfl (by omega)
              | [_], hs => simp at hs
              | [], hs => simp at hs
            · have hk : firstK b.toNat = 3 := by unfold firstK; repeat' split
                                                 all_goals omega
              rw [hk] at hs
              match r, hs with
              | x :: y :: z :: r, _ => exact next_w4 b x y z _ r w hF rfl (by omega)
              | [_, _], hs => simp at hs
              | [_], hs => simp at hs
              | [], hs => simp at hs
end Go.Proofs.YtpoameaaoapiiaaDoor
