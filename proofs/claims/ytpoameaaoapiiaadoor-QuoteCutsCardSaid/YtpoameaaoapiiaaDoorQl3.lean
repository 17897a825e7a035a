/- tabulariumlaw07: QuoteCuts. -/
import Derived.Test.YtpoameaaoapiiaaDoorQl2
namespace Go.Proofs.YtpoameaaoapiiaaDoor
open Go.RowKit

set_option maxHeartbeats 2000000 in
set_option maxRecDepth 100000 in
theorem quotecuts_nat (l : List UInt8) (cut : Nat) (more : List UInt8) (w : World) (hcut : cut < 65536) (hF : Forms w) : Calls Tryd.prog 6 #[.string (str l), .int .u16 cut, .string (str more)] w fun e w' => e = .returned (.bool true) ∧ Below w.heap.size w w' := by
  have hwk := qwakes_any w hF
  go_enter Tryd.func6, Tryd.ntmps6
  go_wp2_with fail
  refine hwk.mono ?_
  rintro e w1 ⟨rfl, hB1⟩
  clear hwk
  by_cases h1 : 500 < l.length
  · have hd : decide ((500 : Int) < (l.length : Int)) = true := by simp; omega
    go_wp2
    go_ret
    exact ⟨rfl, hB1⟩
  · have hd : decide ((500 : Int) < (l.length : Int)) = false := by simp; omega
    by_cases h2 : 100 < more.length
    · have hd2 : decide ((100 : Int) < (more.length : Int)) = true := by simp; omega
      go_wp2
      go_ret
      exact ⟨rfl, hB1⟩
    · have hd2 : decide ((100 : Int) < (more.length : Int)) = false := by simp; omega
      have c2 := fun W => refvalid_any l W (by omega)
      by_cases hv : Utf.valid l = true
      · rw [hv] at c2
        have hF1 := hF.below hB1
        have hpl := Qt.print_len l
        have hm := Qt.scan_print more hv
        have hk : cut % (Qt.print l).length < (Qt.print l).length := Nat.mod_lt _ (by omega)
        have ht := Qt.scan_cut hv hk
        have c1 := fun W h => qprint_yes l W h (by omega) hv
        have c3 := fun W h => qscan_any (Qt.print l ++ more) W h (by rw [List.length_append]; omega)
        have c4 := fun W h => qscan_any ((Qt.print l).take (cut % (Qt.print l).length)) W h (by rw [List.length_take]; omega)
        rw [hm] at c3
        generalize Qt.print l = P at *
        have hne : (P == []) = false := by
          cases P with
          | nil => simp at hpl
          | cons _ _ => rfl
        have hne2 : P.isEmpty = false := by
          cases P with
          | nil => simp at hpl
          | cons _ _ => rfl
        obtain ⟨k, hkk⟩ : ∃ k, k = cut % P.length := ⟨_, rfl⟩
        rw [← hkk] at hk ht c4
        obtain ⟨s2, n2, e2, hq⟩ : ∃ s n e, Qt.scan (P.take k) = ⟨s, n, e⟩ := ⟨_, _, _, rfl⟩
        rw [hq] at ht c4
        simp only [scanV] at ht c3 c4
        have t1 : (cut : Int).tmod (P.length : Int) = (k : Int) := by rw [Int.tmod_eq_emod_of_nonneg (by omega), hkk]; rfl
        have t2 : (cut : Int) % (P.length : Int) = (k : Int) := by rw [hkk]; rfl
        have t3 : IntKind.i64.wrap (cut : Int) = (cut : Int) := IntWalk.i64_in _ (by omega)
        have t4 : IntKind.i64.wrap (k : Int) = (k : Int) := IntWalk.i64_in _ (by omega)
        have t5 : ((P.length : Int) == 0) = false := beq_eq_false_iff_ne.2 (by omega)
        have t6 : ¬ (P.length : Int) = 0 := by omega
        have ha : ∀ W : World, (Op.stringOp .add (str P) (str more)).run Tryd.prog W = .ok (.string (str (P ++ more))) W := fun W => run_add_str W P more (by omega)
        have hsl : ∀ W : World, (Instr.slice 9 (.string (str P)) none (some (.int .i64 (k : Int))) none).run Tryd.prog W = .ok (.string (str (P.take k))) W := fun W => by
          have h1 := run_slice_str_to W 9 P .i64 (k : Int) Tryd.underlying9
          rw [if_pos ⟨by omega, by omega⟩, Int.toNat_natCast] at h1
          exact h1
        have HT := Lib.hid ht
        clear hv hm hq hkk hk ht hpl
        go_wp2_with fail
        refine (c2 _).mono ?_
        rintro e w2 ⟨rfl, hB2⟩
        have hF2 := hF1.below hB2
        have hBa := hB1.trans (hB2.mono hB1.size)
        clear hB1 hB2 c2
        go_wp2_with fail
        refine (c1 _ hF2).mono ?_
        rintro e w3 ⟨rfl, hB3⟩
        have hF3 := hF2.below hB3
        have hBb := hBa.trans (hB3.mono hBa.size)
        clear hBa hB3 c1
        go_wp2_with fail
        refine (c3 _ hF3).mono ?_
        rintro e w4 ⟨rfl, hB4⟩
        have hF4 := hF3.below hB4
        have hBc := hBb.trans (hB4.mono hBb.size)
        clear hBb hB4 c3
        go_wp2_with fail
        refine (c4 _ hF4).mono ?_
        rintro e w5 ⟨rfl, hB5⟩
        have hBd := hBc.trans (hB5.mono hBc.size)
        clear hBc hB5 c4
        rcases HT.out with rfl | rfl
        · go_wp2
          go_ret
          exact ⟨rfl, hBd⟩
        · go_wp2
          go_ret
          exact ⟨rfl, hBd⟩
      · rw [show Utf.valid l = false by simpa using hv] at c2
        clear hv
        go_wp2_with fail
        refine (c2 _).mono ?_
        rintro e w2 ⟨rfl, hB2⟩
        have hBa := hB1.trans (hB2.mono hB1.size)
        go_wp2
        go_ret
        exact ⟨rfl, hBa⟩
theorem quotecuts_law (l : List UInt8) (cut : Int) (more : List UInt8) (w : World) (hw : (Lit.int .u16 cut).wf = true) (hF : Forms w) : Calls Tryd.prog 6 #[.string (str l), .int .u16 cut, .string (str more)] w fun e w' => e = .returned (.bool true) ∧ Below w.heap.size w w' := by
  obtain ⟨k, rfl, hk⟩ := wf_u16 hw
  exact quotecuts_nat l k more w hk hF
end Go.Proofs.YtpoameaaoapiiaaDoor
