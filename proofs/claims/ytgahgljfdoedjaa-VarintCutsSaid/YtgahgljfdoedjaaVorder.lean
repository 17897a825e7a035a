/- VarintOrder: the walk. -/
import Derived.Test.YtgahgljfdoedjaaVwakes
namespace Go.Proofs.Ytgahgljfdoedjaa
open Go.RowKit

theorem Bs.upto {w : World} {A : Option Addr} {n c k : Nat} {l : List UInt8} (h : Bs w A n c l) (hk : k ≤ n) : Bs w A k c (l.take k) := by
  have := Rd.upto h hk
  unfold Bs
  rwa [Nat.mul_one, bval_take] at this
theorem vorder_dec {a b p q : Nat} (hp : p < 18446744073709551616) (hq : q < 18446744073709551616) (h : p = q ↔ a = b) : (decide (Var.put p = (Var.put q).take (Var.put p).length) == ((a : Int) == b)) = true := by
  by_cases e : a = b
  · have e2 := h.2 e
    subst e e2
    have := (Var.put_take hp hp).2 rfl
    simp only [← this]
    simp
  · have h1 : ¬ (Var.put p = (Var.put q).take (Var.put p).length) := fun e2 => e (h.1 ((Var.put_take hp hq).1 e2))
    have h2 : ((a : Int) == b) = false := by simp; omega
    simp [h1, h2]

set_option maxRecDepth 100000 in
set_option maxHeartbeats 400000 in
theorem vorder_any (a b : Nat) (w : World) (ha : a < 18446744073709551616) (hb : b < 18446744073709551616) :
    Calls Try.prog 6 #[.int .u64 a, .int .u64 b] w fun e w' => e = .returned (.bool true) ∧ Below w.heap.size w w' := by
  obtain ⟨p, hp⟩ : ∃ p : Nat, p = min a b := ⟨_, rfl⟩
  obtain ⟨q, hq⟩ : ∃ q : Nat, q = max a b := ⟨_, rfl⟩
  have HP : Hid (min (a : Int) b = p) := by unfold Hid; omega
  have HQ : Hid (max (a : Int) b = q) := by unfold Hid; omega
  have hp64 : p < 18446744073709551616 := by omega
  have hq64 : q < 18446744073709551616 := by omega
  have hdec := vorder_dec (a := a) (b := b) hp64 hq64 (by omega)
  have hmono := Var.put_mono (show p ≤ q by omega)
  have hlp := Var.put_length p
  have hlq := Var.put_length q
  have hd1 : decide ((Var.put q).length < (Var.put p).length) = false := by simp; omega
  have hd2 : (((Var.put p).length : Int) == 0) = false := by simp; intro e; simp [e] at hlp
  clear hp hq
  go_enter Try.func6, Try.ntmps6
  go_wp2_with fail
  refine (vwakes_any _).mono ?_
  rintro e w1 ⟨rfl, hb1⟩
  go_wp2_with fail
  rw [HP.out]
  refine (put_any p _ hp64).mono ?_
  rintro e w2 ⟨A, n, c, rfl, hownx, hb2⟩
  have hx := Bs.of_own hownx
  have hxl := hx.len
  subst hxl
  go_wp2_with fail
  rw [HQ.out]
  refine (put_any q _ hq64).mono ?_
  rintro e w3 ⟨B, m, d, rfl, howny, hb3⟩
  have hy := Bs.of_own howny
  have hyl := hy.len
  subst hyl
  have hd := hy.2.1
  go_wp2_with fail
  refine (same_any _ _ _ _ _ _ _ _ _ (hx.below hb3) (hy.upto hmono)).mono ?_
  rintro e w4 ⟨rfl, k, rfl⟩
  go_wp2
  go_ret
  exact ⟨rfl, below_drewN ((hb1.trans (hb2.mono hb1.size)).trans (hb3.mono (Nat.le_trans hb1.size hb2.size))) _⟩
end Go.Proofs.Ytgahgljfdoedjaa
