/- tabulariumlaw02.UtfJoins. -/
import Derived.Test.YtikelcbceoilpaaDoorUl1
namespace Go.Proofs.YtikelcbceoilpaaDoor
open Go.RowKit

theorem join_scan {a : List UInt8} (b : List UInt8) (ha : Utf.valid a = true) : (Utf.all (a ++ b)).length = (Utf.all a).length + (Utf.all b).length ∧ Utf.stop (a ++ b) = a.length + Utf.stop b := by
  have h := Utf.scan_app a b 0 (Utf.valid_iff.1 ha)
  have hs := Utf.scan_shift (b.length + 1) b 0 a.length (Nat.lt_succ_self _)
  unfold Utf.all Utf.stop
  rw [h]
  simp only [hs.1, hs.2, List.length_append, List.length_map]
  exact ⟨trivial, by omega⟩
theorem join_valid {a : List UInt8} (b : List UInt8) (ha : Utf.valid a = true) : Utf.valid (a ++ b) = Utf.valid b := by
  have h := (join_scan b ha).2
  unfold Utf.valid
  rw [h, List.length_append]
  rw [decide_eq_decide]
  omega
theorem join_bad {a : List UInt8} (b : List UInt8) (ha : Utf.valid a = true) (hb : Utf.valid b = false) : badI (a ++ b) = (a.length : Int) + badI b := by
  unfold badI
  rw [join_valid b ha, hb, if_neg (by simp), if_neg (by simp), (join_scan b ha).2]
  simp
theorem badI_bound (l : List UInt8) : -1 ≤ badI l ∧ badI l ≤ l.length := by
  have := Utf.scan_stop (l.length + 1) l 0 (Nat.lt_succ_self _)
  unfold badI Utf.stop
  split <;> omega
set_option maxHeartbeats 1000000 in
set_option maxRecDepth 100000 in
theorem utfjoins_law (a b : List UInt8) (w : World) (hF : Forms w) : Calls Tryd.prog 7 #[.string (str a), .string (str b)] w fun e w' => e = .returned (.bool true) ∧ Below w.heap.size w w' := by
  go_enter Tryd.func7, Tryd.ntmps7
  go_wp2_with fail
  refine (wakes_any w hF).mono ?_
  rintro e w1 ⟨rfl, hB1⟩
  by_cases hla : a.length ≤ 500
  · by_cases hlb : b.length ≤ 500
    · have c1 := fun W hW => valid_any a W hW (by omega)
      cases hva : Utf.valid a
      · rw [hva] at c1
        go_wp2_with fail
        refine (c1 w1 (hF.below hB1)).mono ?_
        rintro e w2 ⟨rfl, hB2⟩
        have hB2' := hB1.trans (hB2.mono hB1.size)
        go_wp2
        go_ret
        exact ⟨rfl, hB2'⟩
      · have c2 := fun W hW => count_any a W hW (by omega)
        have c3 := fun W hW => count_any b W hW (by omega)
        have c4 := fun W hW => count_any (a ++ b) W hW (by rw [List.length_append]; omega)
        have c5 := fun W hW => bad_any (a ++ b) W hW (by rw [List.length_append]; omega)
        have c6 := fun W hW => bad_any b W hW (by omega)
        have hadd := fun W => run_add_str (P := Tryd.prog) W a b (by omega)
        have hj := join_valid b hva
        have hjl := (join_scan b hva).1
        have hal : (Utf.all a).length ≤ a.length := Utf.all_length a
        have hbl : (Utf.all b).length ≤ b.length := Utf.all_length b
        have hbb := badI_bound b
        rw [hva] at c1 c2
        rw [if_pos rfl] at c2
        cases hvb : Utf.valid b
        · have hjb := join_bad b hva hvb
          rw [hvb] at c3 hj
          rw [if_neg (by simp)] at c3
          rw [hj, if_neg (by simp)] at c4
          rw [hjb] at c5
          clear hjb hjl hj
          generalize badI b = bb at *
          have hbe : ((a.length : Int) + bb == (a.length : Int) + bb) = true := by simp
          go_wp2_with fail
          refine (c1 w1 (hF.below hB1)).mono ?_
          rintro e w2 ⟨rfl, hB2⟩
          have hB2' := hB1.trans (hB2.mono hB1.size)
          go_wp2_with fail
          refine (c2 w2 (hF.below hB2')).mono ?_
          rintro e w3 ⟨rfl, hB3⟩
          have hB3' := hB2'.trans (hB3.mono hB2'.size)
          go_wp2_with fail
          refine (c3 w3 (hF.below hB3')).mono ?_
          rintro e w4 ⟨rfl, hB4⟩
          have hB4' := hB3'.trans (hB4.mono hB3'.size)
          go_wp2_with fail
          refine (c4 w4 (hF.below hB4')).mono ?_
          rintro e w5 ⟨rfl, hB5⟩
          have hB5' := hB4'.trans (hB5.mono hB4'.size)
          go_wp2_with fail
          refine (c5 w5 (hF.below hB5')).mono ?_
          rintro e w6 ⟨rfl, hB6⟩
          have hB6' := hB5'.trans (hB6.mono hB5'.size)
          go_wp2_with fail
          refine (c6 w6 (hF.below hB6')).mono ?_
          rintro e w7 ⟨rfl, hB7⟩
          have hB7' := hB6'.trans (hB7.mono hB6'.size)
          go_wp2
          go_ret
          exact ⟨rfl, hB7'⟩
        · rw [hvb] at c3 hj
          rw [if_pos rfl] at c3
          rw [hj, if_pos rfl, hjl] at c4
          clear hjl hj
          go_wp2_with fail
          refine (c1 w1 (hF.below hB1)).mono ?_
          rintro e w2 ⟨rfl, hB2⟩
          have hB2' := hB1.trans (hB2.mono hB1.size)
          go_wp2_with fail
          refine (c2 w2 (hF.below hB2')).mono ?_
          rintro e w3 ⟨rfl, hB3⟩
          have hB3' := hB2'.trans (hB3.mono hB2'.size)
          go_wp2_with fail
          refine (c3 w3 (hF.below hB3')).mono ?_
          rintro e w4 ⟨rfl, hB4⟩
          have hB4' := hB3'.trans (hB4.mono hB3'.size)
          go_wp2_with fail
          refine (c4 w4 (hF.below hB4')).mono ?_
          rintro e w5 ⟨rfl, hB5⟩
          have hB5' := hB4'.trans (hB5.mono hB4'.size)
          go_wp2
          go_ret
          exact ⟨rfl, hB5'⟩
    · go_wp2
      go_ret
      exact ⟨rfl, hB1⟩
  · go_wp2
    go_ret
    exact ⟨rfl, hB1⟩
end Go.Proofs.YtikelcbceoilpaaDoor
