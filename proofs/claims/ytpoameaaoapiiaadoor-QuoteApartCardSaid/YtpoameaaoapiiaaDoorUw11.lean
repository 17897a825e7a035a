/- tabulariumref02.One, Bad, Valid, All. -/
import Derived.Test.YtpoameaaoapiiaaDoorUw10
import Derived.Test.YtpoameaaoapiiaaDoorUw3
import Derived.Deep.DeepCutAuto
import Derived.Deep.RegionHeld3
namespace Go.Proofs.YtpoameaaoapiiaaDoor
open Go.RowKit

theorem next_out2 {c n : Int} {t : Nat × Nat} (h1 : c = t.1) (h2 : n = t.2) : Ending.returned (.tuple #[.int .i64 c, .int .i64 n]) = .returned (.tuple #[.int .i64 t.1, .int .i64 t.2]) := by rw [h1, h2]
set_option maxHeartbeats 1000000 in
set_option maxRecDepth 100000 in
theorem one_any (l : List UInt8) (p : Nat) (w : World) (hp : p ≤ l.length) (hl : l.length ≤ 4611686018427387904) :
    Calls Tryd.prog 34 #[.string (str l), .int .i64 p] w fun e w' => e = .returned (.tuple #[.int .i64 (Utf.next (l.drop p)).1, .int .i64 (Utf.next (l.drop p)).2]) ∧ Below w.heap.size w w' := by
  go_enter Tryd.func34, Tryd.ntmps34
  go_wp2
  go_loopw [6] (fun nv wr => ∃ n : Nat, nv = .int .i64 n ∧ 1 ≤ n ∧ n ≤ 5 ∧ Below w.heap.size w wr ∧ Hid (∀ m, 1 ≤ m → m < n → m ≤ (l.drop p).length → encI (guess ((l.drop p).take m)) ≠ (l.drop p).take m)) (fun nv _ => 5 - (intOf nv).toNat)
  case atStart => exact ⟨1, rfl, by omega, by omega, Below.refl _ _, fun m h1 h2 => by omega⟩
  case round =>
    obtain ⟨n, rfl, h1, h5, hB, HM⟩ := hrel
    by_cases hn : n ≤ 4 ∧ p + n ≤ l.length
    · obtain ⟨hn4, hnl⟩ := hn
      obtain ⟨t, ht⟩ : ∃ t, t = (l.drop p).take n := ⟨_, rfl⟩
      have htl : t.length = n := by rw [ht, List.length_take, List.length_drop]; omega
      have hg := guess_any t wr (by omega) (by omega)
      have e1 : ((p : Int) + n).toNat - (p : Int).toNat = n := by omega
      have e2 : p + n - p = n := by omega
      have hsl : ∀ W : World, (Instr.slice 9 (.string (str l)) (some (.int .i64 (p : Int))) (some (.int .i64 ((p : Int) + n))) none).run Tryd.prog W = .ok (.string (str t)) W := fun W => by
        rw [run_slice_str W 9 l .i64 .i64 p ((p : Int) + n) Tryd.underlying9 (by omega), e1, Int.toNat_natCast, ← ht]
      have HT := Lib.hid ht
      clear ht e1 e2
      go_wp2_with fail
      refine hg.mono ?_
      rintro e w1 ⟨rfl, hB1⟩
      have hw : IntKind.i64.wrap ((p : Int) + n) = (p : Int) + n := IntWalk.i64_in _ (by omega)
      go_upto_region 5 with (fail)
      by_cases hm : encI (guess t) = t
      · obtain ⟨c, hc1, hc2⟩ := one_hit (l := l.drop p) (n := n) h1 (by rw [List.length_drop]; omega) (by rw [← HT.out]; exact hm)
        rw [← HT.out] at hc1
        have HC := Lib.hid hc2
        have hput := fun W => refput_any (guess t) W
        rw [hm] at hput
        have hb : (t == t) = true := beq_self_eq_true t
        rw [hc1] at hput ⊢
        clear hm hc1 hc2
        go_region_held3 (fun w' => Below w1.heap.size w1 w')
          (first
            | exact (Below.refl _ _).drew
            | exact Below.trans (by assumption) (hb5.mono (Below.size (by assumption)))
            | exact below_drewN (by assumption) _)
          (first
            | (go_at_call 43
               refine (hput _).mono ?_
               rintro e w5 ⟨rfl, hb5⟩))
        go_wp2
        go_returns
        refine ⟨next_out2 (by rw [HC.out]) (by rw [HC.out]), (hB.trans (hB1.mono hB.size)).trans ((by assumption : Below w1.heap.size w1 _).mono (Nat.le_trans hB.size hB1.size))⟩
      · have hb : (encI (guess t) == t) = false := by rw [beq_eq_false_iff_ne]; exact hm
        have HM2 : Hid (∀ m, 1 ≤ m → m < n + 1 → m ≤ (l.drop p).length → encI (guess ((l.drop p).take m)) ≠ (l.drop p).take m) := fun m a b c => by
          rcases Nat.lt_or_ge m n with g | g
          · exact HM.out m a g c
          · obtain rfl : m = n := by omega
            rw [← HT.out]; exact hm
        have hput := fun W => refput_any (guess t) W
        generalize encI (guess t) = en at *
        generalize guess t = g at *
        clear hm
        go_region_held3 (fun w' => Below w1.heap.size w1 w')
          (first
            | exact (Below.refl _ _).drew
            | exact Below.trans (by assumption) (hb5.mono (Below.size (by assumption)))
            | exact below_drewN (by assumption) _)
          (first
            | (go_at_call 43
               refine (hput _).mono ?_
               rintro e w5 ⟨rfl, hb5⟩))
        go_wp2
        go_roundw
        case rel => exact ⟨n + 1, by simp, by omega, by omega, (hB.trans (hB1.mono hB.size)).trans ((by assumption : Below w1.heap.size w1 _).mono (Nat.le_trans hB.size hB1.size)), HM2⟩
        case measure => simp [intOf]; omega
    · have hfin : Utf.next (l.drop p) = (0, 0) := one_miss fun m a b c => HM.out m a (by
        rw [List.length_drop] at c
        omega) c
      have HF := Lib.hid hfin
      clear hfin
      by_cases h4 : n ≤ 4
      · have hgt : l.length < p + n := by omega
        clear hn
        go_wp2
        go_returns
        exact ⟨next_out2 (by rw [HF.out]; rfl) (by rw [HF.out]; rfl), hB⟩
      · clear hn
        go_wp2
        go_returns
        exact ⟨next_out2 (by rw [HF.out]; rfl) (by rw [HF.out]; rfl), hB⟩
end Go.Proofs.YtpoameaaoapiiaaDoor
