/- tabulariumlaw02.wakes, UtfValid. -/
import Derived.Test.YtikelcbceoilpaaDoorUw12
import Derived.Test.YtikelcbceoilpaaDoorUw9
import Derived.Test.YtikelcbceoilpaaDoorUw8
import Derived.Test.YtikelcbceoilpaaDoorUw6
namespace Go.Proofs.YtikelcbceoilpaaDoor
open Go.RowKit

set_option maxHeartbeats 1000000 in
set_option maxRecDepth 100000 in
theorem wakes_any (w : World) (hF : Forms w) : Calls Tryd.prog 8 #[] w fun e w' => e = .returned (.bool true) ∧ Below w.heap.size w w' := by
  have h1 : encI 8364 = [226, 130, 172] := by decide +kernel
  have h2 : scalarI 8364 = true := by decide +kernel
  have h3 : badI [192, 128] = 0 := by decide +kernel
  have h4 : badI [237, 160, 128] = 0 := by decide +kernel
  have h5 : badI [244, 144, 128, 128] = 0 := by decide +kernel
  have p1 := utfput_any 8364 w hF
  rw [h1, h2] at p1
  have p3 := fun W hW => bad_any [192, 128] W hW (by simp)
  rw [h3] at p3
  have p4 := fun W hW => bad_any [237, 160, 128] W hW (by simp)
  rw [h4] at p4
  have p5 := fun W hW => bad_any [244, 144, 128, 128] W hW (by simp)
  rw [h5] at p5
  clear h1 h2 h3 h4 h5
  go_enter Tryd.func8, Tryd.ntmps8
  go_wp2_with fail
  refine p1.mono ?_
  rintro e w1 ⟨rfl, hB1⟩
  go_wp2_with fail
  refine (p3 w1 (hF.below hB1)).mono ?_
  rintro e w2 ⟨rfl, hB2⟩
  have hB2' := hB1.trans (hB2.mono hB1.size)
  go_wp2_with fail
  refine (p4 w2 (hF.below hB2')).mono ?_
  rintro e w3 ⟨rfl, hB3⟩
  have hB3' := hB2'.trans (hB3.mono hB2'.size)
  go_wp2_with fail
  refine (p5 w3 (hF.below hB3')).mono ?_
  rintro e w4 ⟨rfl, hB4⟩
  go_wp2
  go_ret
  exact ⟨rfl, hB3'.trans (hB4.mono hB3'.size)⟩

theorem OwnedS_below {w : World} {t : TypeId} {sz : Nat} {xs : List Value} {e : Ending} {w' : World} (h : OwnedS w t sz xs e w') : Below w.heap.size w w' := by
  obtain ⟨_, _, _, _, _, h⟩ := h; exact h
theorem badI_neg (l : List UInt8) : decide (badI l < 0) = Utf.valid l := by
  unfold badI
  cases Utf.valid l
  · rw [if_neg (by simp)]; exact decide_eq_false (by omega)
  · rw [if_pos rfl]; rfl
set_option maxHeartbeats 1000000 in
set_option maxRecDepth 100000 in
theorem utfvalid_law (l : List UInt8) (w : World) (hF : Forms w) : Calls Tryd.prog 6 #[.string (str l)] w fun e w' => e = .returned (.bool true) ∧ Below w.heap.size w w' := by
  go_enter Tryd.func6, Tryd.ntmps6
  go_wp2_with fail
  refine (wakes_any w hF).mono ?_
  rintro e w1 ⟨rfl, hB1⟩
  have hF1 := hF.below hB1
  by_cases hl : l.length ≤ 1000
  · have c1 := fun W => refbad_any l W (by omega)
    have c2 := fun W hW => count_any l W hW (by omega)
    have c3 := fun W hW => bad_any l W hW (by omega)
    have c4 := fun W hW => valid_any l W hW (by omega)
    have c5 := fun W => refall_any l W (by omega)
    have hbn := badI_neg l
    have hlen : (Utf.all l).length ≤ l.length := Utf.all_length l
    have hsl := sval_length (Utf.all l)
    cases hv : Utf.valid l
    · rw [hv] at c2 c4 hbn
      rw [if_neg (by simp)] at c2
      have hbi : 0 ≤ badI l := by simpa using hbn
      generalize badI l = b at *
      have hb1 : (b != b) = false := by simp
      clear hbn
      go_wp2_with fail
      refine (c1 w1).mono ?_
      rintro e w2 ⟨rfl, hB2⟩
      have hB2' := hB1.trans (hB2.mono hB1.size)
      go_wp2_with fail
      refine (c2 w2 (hF.below hB2')).mono ?_
      rintro e w3 ⟨rfl, hB3⟩
      have hB3' := hB2'.trans (hB3.mono hB2'.size)
      go_wp2_with fail
      refine (c3 w3 (hF.below hB3')).mono ?_
      rintro e w4 ⟨rfl, hB4⟩
      have hB4' := hB3'.trans (hB4.mono hB3'.size)
      go_wp2_with fail
      refine (c4 w4 (hF.below hB4')).mono ?_
      rintro e w5 ⟨rfl, hB5⟩
      have hB5' := hB4'.trans (hB5.mono hB4'.size)
      go_wp2
      go_ret
      exact ⟨rfl, hB5'⟩
    · rw [hv] at c2 c4 hbn
      rw [if_pos rfl] at c2
      have hbi : badI l < 0 := by simpa using hbn
      generalize badI l = b at *
      have hb1 : (b != b) = false := by simp
      clear hbn
      go_wp2_with fail
      refine (c1 w1).mono ?_
      rintro e w2 ⟨rfl, hB2⟩
      have hB2' := hB1.trans (hB2.mono hB1.size)
      go_wp2_with fail
      refine (c2 w2 (hF.below hB2')).mono ?_
      rintro e w3 ⟨rfl, hB3⟩
      have hB3' := hB2'.trans (hB3.mono hB2'.size)
      go_wp2_with fail
      refine (c3 w3 (hF.below hB3')).mono ?_
      rintro e w4 ⟨rfl, hB4⟩
      have hB4' := hB3'.trans (hB4.mono hB3'.size)
      go_wp2_with fail
      refine (c4 w4 (hF.below hB4')).mono ?_
      rintro e w5 ⟨rfl, hB5⟩
      have hB5' := hB4'.trans (hB5.mono hB4'.size)
      go_wp2_with fail
      refine (c5 w5).mono ?_
      rintro e w6 ⟨A, n, c, rfl, hown, hB6⟩
      have hn : n = (Utf.all l).length := Rd2.len (Rd.of_own hown)
      subst hn
      go_wp2
      go_ret
      exact ⟨rfl, hB5'.trans (hB6.mono hB5'.size)⟩
  · go_wp2
    go_ret
    exact ⟨rfl, hB1⟩
end Go.Proofs.YtikelcbceoilpaaDoor
