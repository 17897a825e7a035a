/- tabulariumlaw02.UtfAll. -/
import Derived.Test.YtikelcbceoilpaaDoorUl1
import Derived.Deep.DeepCutAuto
import Derived.Deep.RegionHeld3
import Derived.Sort.AtCall
namespace Go.Proofs.YtikelcbceoilpaaDoor
open Go.RowKit

theorem sval_take (l : List (Nat × Nat)) (k : Nat) : (sval l).take (k * 2) = sval (l.take k) := by
  induction l generalizing k with
  | nil => simp [sval]
  | cons x l ih =>
    cases k with
    | zero => simp [sval]
    | succ k =>
      have e : sval (x :: l) = (.int .i64 x.1) :: (.int .i64 x.2) :: sval l := rfl
      rw [e, show (k + 1) * 2 = k * 2 + 1 + 1 by omega, List.take_succ_cons, List.take_succ_cons, ih]
      rfl
set_option maxHeartbeats 1000000 in
set_option maxRecDepth 100000 in
theorem utfall_law (l : List UInt8) (stop : Int) (w : World) (hw : (Lit.int .u8 stop).wf = true) (hF : Forms w) : Calls Tryd.prog 3 #[.string (str l), .int .u8 stop] w fun e w' => e = .returned (.bool true) ∧ Below w.heap.size w w' := by
  obtain ⟨s, rfl, hs⟩ := wf_byte hw
  go_enter Tryd.func3, Tryd.ntmps3
  go_wp2_with fail
  refine (wakes_any w hF).mono ?_
  rintro e w1 ⟨rfl, hB1⟩
  by_cases hl : l.length ≤ 1000
  · have hlen : (Utf.all l).length ≤ l.length := Utf.all_length l
    have htk : (Utf.all l).take 9999 = Utf.all l := List.take_of_length_le (by omega)
    have c1 := fun W => refall_any l W (by omega)
    have c2 : ∀ W, Forms W → Calls Tryd.prog 11 #[.string (str l), .int .i64 9999] W (OwnedS W 30 2 (sval ((Utf.all l).take 9999))) := fun W hW => told_any l 9999 W hW (by omega) (by omega)
    have c3 := fun W hW => told_any l (min s (Utf.all l).length) W hW (by omega) (by omega)
    rw [htk] at c2
    clear htk
    go_wp2_with fail
    refine (c1 w1).mono ?_
    rintro e w2 ⟨A, n, c, rfl, hown, hB2⟩
    have hB2' := hB1.trans (hB2.mono hB1.size)
    have hn : n = (Utf.all l).length := Rd2.len (Rd.of_own hown)
    subst hn
    have hr := Rd.of_own hown
    have hF2 := hF.below hB2'
    obtain ⟨k, hk⟩ : ∃ k, k = min s (Utf.all l).length := ⟨_, rfl⟩
    have hki : min (s : Int) ((Utf.all l).length : Int) = (k : Int) := by omega
    have hkn : k ≤ (Utf.all l).length := by omega
    have hkc : k ≤ c := by have := hr.2.1; omega
    rw [← hk] at c3
    have hru := hr.upto hkn
    rw [sval_take] at hru
    generalize Utf.all l = al at *
    have c4 : ∀ (xs : List (Nat × Nat)) (A B : Option Addr) (n c m d : Nat) (W : World), Rd W 2 A n c (sval xs) → Rd W 2 B m d (sval xs) →
        Calls Tryd.prog 10 #[.slice A n c, .slice B m d] W fun e w' => e = .returned (.bool true) ∧ Below W.heap.size W w' := fun xs A B n c m d W ha hb =>
      (same_any xs xs A B n c m d W ha hb).mono fun e w' ⟨h1, h2⟩ => ⟨by rw [h1, decide_eq_true rfl], h2⟩
    clear hk
    go_upto_region 7 with (fail)
    go_region_held3 (fun w' => Below w2.heap.size w2 w')
      (first
        | exact (Below.refl _ _).drew
        | exact Below.trans (by assumption) (hb5.mono (Below.size (by assumption)))
        | exact Below.trans (by assumption) (hb6.mono (Below.size (by assumption)))
        | exact Below.trans (by assumption) (hb7.mono (Below.size (by assumption)))
        | exact Below.trans (by assumption) (hb8.mono (Below.size (by assumption)))
        | exact below_drewN (by assumption) _)
      (first
        | (go_at_call_has 11 (Value.int IntKind.i64 (9999 : Int))
           refine (c2 _ (hF2.below (by assumption))).mono ?_
           rintro e w5 ⟨A5, n5, cc5, rfl, hown5, hb5⟩)
        | (go_at_call_has 10 (Value.slice A5 n5 cc5)
           refine Calls.mono (c4 al A5 A n5 cc5 al.length c _ (by first | exact Rd.of_own hown5 | exact Rd.drew (Rd.of_own hown5) | exact Rd.drewN (Rd.of_own hown5) _) (hr.below (by assumption))) ?_
           rintro e w6 ⟨rfl, hb6⟩)
        | (go_at_call_has 11 (Value.int IntKind.i64 (k : Int))
           refine (c3 _ (hF2.below (by assumption))).mono ?_
           rintro e w7 ⟨A7, n7, cc7, rfl, hown7, hb7⟩)
        | (go_at_call_has 10 (Value.slice A7 n7 cc7)
           refine Calls.mono (c4 (al.take k) A7 A n7 cc7 k c _ (by first | exact Rd.of_own hown7 | exact Rd.drew (Rd.of_own hown7) | exact Rd.drewN (Rd.of_own hown7) _) (hru.below (by assumption))) ?_
           rintro e w8 ⟨rfl, hb8⟩))
    go_wp2
    go_ret
    exact ⟨rfl, hB2'.trans ((by assumption : Below w2.heap.size w2 _).mono hB2'.size)⟩
  · go_wp2
    go_ret
    exact ⟨rfl, hB1⟩
end Go.Proofs.YtikelcbceoilpaaDoor
