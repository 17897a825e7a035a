/- VarintPuts: the walk. -/
import Derived.Test.YtgahgljfdoedjaaVwakes
namespace Go.Proofs.Ytgahgljfdoedjaa
open Go.RowKit

set_option maxRecDepth 100000 in
set_option maxHeartbeats 400000 in
theorem vputs_any (n : Nat) (more : List UInt8) (A : Option Addr) (m c : Nat) (w : World) (hn : n < 18446744073709551616) (hm : Bs w A m c more) :
    Calls Try.prog 3 #[.int .u64 n, .slice A m c] w fun e w' => e = .returned (.bool true) ∧ Below w.heap.size w w' := by
  obtain ⟨i0, hi, hz0, hz1, hz2⟩ := info_parts infoU8
  have hlen := Var.put_length n
  have hml := hm.len
  have HML := Lib.hid hml
  clear hml
  by_cases h100 : m ≤ 100
  · go_enter Try.func3, Try.ntmps3
    go_wp2_with fail
    refine (vwakes_any _).mono ?_
    rintro e w1 ⟨rfl, hb1⟩
    have hm1 := hm.below hb1
    go_wp2_with fail
    refine (put_any n _ hn).mono ?_
    rintro e w2 ⟨B, nb, cb, rfl, hown, hb2⟩
    have hm2 := hm1.below hb2
    have hbs := Bs.of_own hown
    have hnb := hbs.len
    have HNB := Lib.hid hnb
    have hnb10 : nb ≤ 10 := by omega
    clear hnb
    have hz := hb1.size
    have hz2' := hb2.size
    have hmade := World.ownsRow_made w2 #[] 0 (base := w2.heap.size) (e := 5) (size := 1) (Nat.le_refl _) (by omega) rfl
    go_wp2_with (first
      | (at_builtin
         refine wpList_append_rd _ rfl _ _ _ rfl w2.heap.size 5 i0 _ 1 1 Try.underlying23 hi hz0 hz1 hz2 rfl (by omega) _ _ _ hmade rfl _ _ _ _ (hbs.alloc _) rfl (bval_one _) (by unfold maxLen; omega) (by omega) (by simp) _ rfl _ rfl ?_
         intro A3 c3 w3 hown3 hg3 _
         simp only [Nat.zero_add, List.nil_append] at hown3
         have hb3 := below_append ((Below.refl w2.heap.size w2).alloc (Nat.le_refl _) _) hmade hg3 (Nat.le_refl _) (by simp)
         have hm3 := hm2.below hb3
         have hbs3 := hbs.below hb3)
      | (at_builtin
         refine wpList_append_rd _ rfl _ _ _ rfl w2.heap.size 5 i0 _ 1 1 Try.underlying23 hi hz0 hz1 hz2 rfl (by omega) _ _ _ hown3 rfl _ _ _ _ hm3 rfl (bval_one _) (by unfold maxLen; omega) (by omega) hb3.size _ rfl _ rfl ?_
         intro A4 c4 w4 hown4 hg4 _
         have hb4 := below_append hb3 hown3 hg4 (Nat.le_refl _) hb3.size
         have hbs4 := hbs.below hb4))
    have hc := get_any (Var.put n ++ more) A4 (nb + m) c4 w4 (by unfold Bs; rw [bval_append]; exact Rd.of_own hown4)
    rw [Var.get_put n more hn, ← HNB.out] at hc
    refine hc.mono ?_
    rintro e w5 ⟨rfl, rfl⟩
    clear hc
    go_wp2_with fail
    refine (refput_any n _ hn).mono ?_
    rintro e w6 ⟨D, nd, cd, rfl, hown6, hb6⟩
    have hbs6 := hbs4.below hb6
    go_wp2_with fail
    refine (same_any (Var.put n) (Var.put n) _ _ _ _ _ _ _ hbs6 (Bs.of_own hown6)).mono ?_
    rintro e w7 ⟨rfl, k, rfl⟩
    have hdec : decide (Var.put n = Var.put n) = true := by simp
    go_wp2_with fail
    have hs := size_any n (w6.drewN k) hn
    rw [← HNB.out] at hs
    refine hs.mono ?_
    rintro e w8 ⟨rfl, rfl⟩
    clear hs
    go_wp2
    go_ret
    refine ⟨rfl, ?_⟩
    exact below_drewN (((hb1.trans (hb2.mono hz)).trans (hb4.mono (by omega))).trans (hb6.mono (by have := hb4.size; omega))) _
  · go_enter Try.func3, Try.ntmps3
    go_wp2_with fail
    refine (vwakes_any _).mono ?_
    rintro e w1 ⟨rfl, hb1⟩
    go_wp2_with fail
    go_ret
    exact ⟨rfl, hb1⟩
end Go.Proofs.Ytgahgljfdoedjaa
