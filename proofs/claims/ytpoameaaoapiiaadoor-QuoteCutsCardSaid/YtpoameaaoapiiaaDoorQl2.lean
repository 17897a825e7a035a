/- tabulariumlaw07: QuotePrints. -/
import Derived.Test.YtpoameaaoapiiaaDoorQl1
import Derived.Test.YtpoameaaoapiiaaDoorQv
import Derived.Test.YtpoameaaoapiiaaDoorQw
namespace Go.Proofs.YtpoameaaoapiiaaDoor
open Go.RowKit

theorem parse_print {l : List UInt8} (h : Utf.valid l = true) : Qt.parse (Qt.print l) = (l, 0) := by
  have h1 := Qt.scan_print [] h
  rw [List.append_nil] at h1
  unfold Qt.parse
  rw [h1, if_neg (by simp), if_neg (by simp)]

set_option maxHeartbeats 2000000 in
set_option maxRecDepth 100000 in
theorem quoteprints_law (l : List UInt8) (w : World) (hF : Forms w) : Calls Tryd.prog 5 #[.string (str l)] w fun e w' => e = .returned (.bool true) ∧ Below w.heap.size w w' := by
  have hwk := qwakes_any w hF
  go_enter Tryd.func5, Tryd.ntmps5
  go_wp2_with fail
  refine hwk.mono ?_
  rintro e w1 ⟨rfl, hB1⟩
  by_cases hlen : 1000 < l.length
  · have hd : decide ((1000 : Int) < (l.length : Int)) = true := by simp; omega
    go_wp2
    go_ret
    exact ⟨rfl, hB1⟩
  · have hd : decide ((1000 : Int) < (l.length : Int)) = false := by simp; omega
    have hF1 := hF.below hB1
    have c1 := qprint_any l w1 hF1 (by omega)
    have c2 := fun W => refvalid_any l W (by omega)
    unfold Qt.printed at c1
    have hpl := (Qt.print_len l).2
    by_cases hv : Utf.valid l = true
    · have hpp := parse_print hv
      rw [hv] at c2
      rw [if_pos hv] at c1
      have c3 := fun W h => qparse_any (Qt.print l) W h (by omega)
      rw [hpp] at c3
      have c4 := fun W => rqprint_any l W (by omega)
      clear hpp hv hpl hwk
      generalize Qt.print l = P at *
      go_wp2_with fail
      refine c1.mono ?_
      rintro e w2 ⟨rfl, hB2⟩
      have hF2 := hF1.below hB2
      have hBa := hB1.trans (hB2.mono hB1.size)
      clear c1 hB1 hB2
      go_wp2_with fail
      refine (c2 _).mono ?_
      rintro e w3 ⟨rfl, hB3⟩
      have hF3 := hF2.below hB3
      have hBb := hBa.trans (hB3.mono hBa.size)
      clear hBa hB3
      go_wp2_with fail
      refine (c3 _ hF3).mono ?_
      rintro e w4 ⟨rfl, hB4⟩
      have hBc := hBb.trans (hB4.mono hBb.size)
      clear hBb hB4
      go_wp2_with fail
      refine (c4 _).mono ?_
      rintro e w5 ⟨rfl, hB5⟩
      have hBd := hBc.trans (hB5.mono hBc.size)
      clear hBc hB5
      go_wp2
      go_ret
      exact ⟨rfl, hBd⟩
    · rw [if_neg hv] at c1
      rw [show Utf.valid l = false by simpa using hv] at c2
      clear hv hpl hwk
      go_wp2_with fail
      refine c1.mono ?_
      rintro e w2 ⟨rfl, hB2⟩
      have hBa := hB1.trans (hB2.mono hB1.size)
      clear c1 hB1 hB2
      go_wp2_with fail
      refine (c2 _).mono ?_
      rintro e w3 ⟨rfl, hB3⟩
      have hBb := hBa.trans (hB3.mono hBa.size)
      go_wp2
      go_ret
      exact ⟨rfl, hBb⟩
end Go.Proofs.YtpoameaaoapiiaaDoor
