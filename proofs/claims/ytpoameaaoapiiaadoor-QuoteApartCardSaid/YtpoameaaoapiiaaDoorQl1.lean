/- tabulariumlaw07: wakes, QuoteScans, QuoteTexts. -/
import Derived.Test.YtpoameaaoapiiaaDoorQg
import Derived.Test.YtpoameaaoapiiaaDoorQu
import Derived.Test.YtpoameaaoapiiaaDoorQz
import Derived.Test.YtpoameaaoapiiaaDoorUw12a
namespace Go.Proofs.YtpoameaaoapiiaaDoor
open Go.RowKit

theorem parse_one : Qt.parse [34, 97, 92, 117, 48, 48, 101, 57, 92, 117, 100, 56, 51, 100, 92, 117, 100, 101, 48, 48, 34] = ([97, 195, 169, 240, 159, 152, 128], 0) := by decide +kernel
theorem parse_two : Qt.parse [34, 92, 117, 100, 56, 51, 100, 34] = ([], 3) := by decide +kernel
theorem parse_three : Qt.parse [34, 97] = ([], 2) := by decide +kernel

set_option maxHeartbeats 1000000 in
set_option maxRecDepth 100000 in
theorem qwakes_any (w : World) (hF : Forms w) : Calls Tryd.prog 8 #[] w fun e w' => e = .returned (.bool true) ∧ Below w.heap.size w w' := by
  have c1 := fun W h => qparse_any [34, 97, 92, 117, 48, 48, 101, 57, 92, 117, 100, 56, 51, 100, 92, 117, 100, 101, 48, 48, 34] W h (by decide)
  have c2 := fun W h => qparse_any [34, 92, 117, 100, 56, 51, 100, 34] W h (by decide)
  have c3 := fun W h => qparse_any [34, 97] W h (by decide)
  rw [parse_one] at c1
  rw [parse_two] at c2
  rw [parse_three] at c3
  simp only [str] at c1 c2 c3
  go_enter Tryd.func8, Tryd.ntmps8
  go_wp2_with fail
  refine (c1 _ hF).mono ?_
  rintro e w1 ⟨rfl, hB1⟩
  have hF1 := hF.below hB1
  go_wp2_with fail
  refine (c2 _ hF1).mono ?_
  rintro e w2 ⟨rfl, hB2⟩
  have hF2 := hF1.below hB2
  go_wp2_with fail
  refine (c3 _ hF2).mono ?_
  rintro e w3 ⟨rfl, hB3⟩
  go_wp2
  go_ret
  exact ⟨rfl, hB1.trans ((hB2.trans (hB3.mono hB2.size)).mono hB1.size)⟩

set_option maxHeartbeats 2000000 in
set_option maxRecDepth 100000 in
theorem quotescans_law (l : List UInt8) (w : World) (hF : Forms w) : Calls Tryd.prog 3 #[.string (str l)] w fun e w' => e = .returned (.bool true) ∧ Below w.heap.size w w' := by
  have hwk := qwakes_any w hF
  go_enter Tryd.func3, Tryd.ntmps3
  go_wp2_with fail
  refine hwk.mono ?_
  rintro e w1 ⟨rfl, hB1⟩
  by_cases hlen : 1000 < l.length
  · have hd : decide ((1000 : Int) < (l.length : Int)) = true := by simp; omega
    go_wp2
    go_ret
    exact ⟨rfl, hB1⟩
  · have hd : decide ((1000 : Int) < (l.length : Int)) = false := by simp; omega
    have hF1 := hF.below hB1
    have c1 := qscan_any l w1 hF1 (by omega)
    have c2 := fun W => rqscan_any l W (by omega)
    have c3 := fun W h => qparse_any l W h (by omega)
    have hv := (Qt.scan_valid l).2.2
    obtain ⟨v, hvv⟩ : ∃ v, v = Qt.parse l := ⟨_, rfl⟩
    rw [← hvv] at c3
    unfold Qt.parse at hvv
    obtain ⟨s, n, e, hq⟩ : ∃ s n e, Qt.scan l = ⟨s, n, e⟩ := ⟨_, _, _, rfl⟩
    rw [hq] at c1 c2 hv hvv
    simp only [scanV, ptv] at c1 c2 hv hvv
    have HV := Lib.hid (And.intro hv hvv)
    clear hq hv hvv hwk
    go_wp2_with fail
    refine c1.mono ?_
    rintro e w2 ⟨rfl, hB2⟩
    have hF2 := hF1.below hB2
    go_wp2_with fail
    refine (c2 _).mono ?_
    rintro e w3 ⟨rfl, hB3⟩
    obtain ⟨d, os, rfl⟩ := later_of_below hB3
    have hF3 := hF2.below hB3
    have hF4 := hF3.alloc (.cells #[.string (str s), .int .i64 n, .int .i64 e] 27)
    have hB4 : Below w.heap.size w ((later w2 d os).alloc (.cells #[.string (str s), .int .i64 n, .int .i64 e] 27)) := (hB1.trans ((hB2.trans (hB3.mono hB2.size)).mono hB1.size)).alloc (by have := hB1.size; have := hB2.size; have := hB3.size; omega) _
    clear c2 c1 hB3
    go_wp2_with fail
    generalize (later w2 d os).alloc (.cells #[.string (str s), .int .i64 n, .int .i64 e] 27) = w4 at hF4 hB4 ⊢
    refine (c3 _ hF4).mono ?_
    rintro e w5 ⟨rfl, hB5⟩
    have hB6 := hB4.trans (hB5.mono hB4.size)
    clear c3
    obtain ⟨hv, hvv⟩ := HV.out
    clear HV
    by_cases h1 : e = 0
    · have hn := hv h1
      rw [if_neg (by simpa using h1)] at hvv
      by_cases h2 : n < l.length
      · rw [if_pos h2] at hvv
        have d2 : decide (n < l.length) = true := decide_eq_true h2
        subst h1 hvv
        clear hv
        go_wp2
        go_ret
        exact ⟨rfl, hB6⟩
      · rw [if_neg h2] at hvv
        obtain rfl : n = l.length := by omega
        subst h1 hvv
        clear hv
        go_wp2
        go_ret
        exact ⟨rfl, hB6⟩
    · rw [if_pos (by simpa using h1)] at hvv
      have h1b : ((e : Int) != 0) = true := by simp; omega
      subst hvv
      clear hv
      go_wp2
      go_ret
      exact ⟨rfl, hB6⟩

set_option maxHeartbeats 2000000 in
set_option maxRecDepth 100000 in
theorem quotetexts_law (l : List UInt8) (w : World) (hF : Forms w) : Calls Tryd.prog 4 #[.string (str l)] w fun e w' => e = .returned (.bool true) ∧ Below w.heap.size w w' := by
  have hwk := qwakes_any w hF
  go_enter Tryd.func4, Tryd.ntmps4
  go_wp2_with fail
  refine hwk.mono ?_
  rintro e w1 ⟨rfl, hB1⟩
  by_cases hlen : 1000 < l.length
  · have hd : decide ((1000 : Int) < (l.length : Int)) = true := by simp; omega
    go_wp2
    go_ret
    exact ⟨rfl, hB1⟩
  · have hd : decide ((1000 : Int) < (l.length : Int)) = false := by simp; omega
    have hF1 := hF.below hB1
    have c1 := qscan_any l w1 hF1 (by omega)
    obtain ⟨hv, hv2, hv3⟩ := Qt.scan_valid l
    obtain ⟨s, n, e, hq⟩ : ∃ s n e, Qt.scan l = ⟨s, n, e⟩ := ⟨_, _, _, rfl⟩
    rw [hq] at c1 hv hv2 hv3
    simp only [scanV] at c1 hv hv2 hv3
    have HV := Lib.hid (And.intro hv hv2)
    have hs6 : s.length ≤ 4 * l.length := by have := Qt.scan_len l; rw [hq] at this; exact this
    clear hq hv hv2 hwk hv3
    go_wp2_with fail
    refine c1.mono ?_
    rintro e w2 ⟨rfl, hB2⟩
    have hB6 := hB1.trans (hB2.mono hB1.size)
    clear c1
    obtain ⟨hv, hvv⟩ := HV.out
    clear HV
    by_cases h1 : e = 0
    · have h1b : ((e : Int) != 0) = false := by simp; omega
      have c2 := fun W => refvalid_any s W (by omega)
      rw [hv] at c2
      clear hvv
      go_wp2_with fail
      refine (c2 _).mono ?_
      rintro e w3 ⟨rfl, hB3⟩
      go_wp2
      go_ret
      exact ⟨rfl, hB6.trans (hB3.mono hB6.size)⟩
    · have h2 := hvv h1
      have h1b : ((e : Int) != 0) = true := by simp; omega
      subst h2
      clear hv hvv
      go_wp2
      go_ret
      exact ⟨rfl, hB6⟩
end Go.Proofs.YtpoameaaoapiiaaDoor
