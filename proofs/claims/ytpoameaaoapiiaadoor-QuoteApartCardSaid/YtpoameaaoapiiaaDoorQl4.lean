/- tabulariumlaw07: QuoteApart. -/
import Derived.Test.YtpoameaaoapiiaaDoorQl2
namespace Go.Proofs.YtpoameaaoapiiaaDoor
open Go.RowKit

theorem printed_apart (a b : List UInt8) : (Qt.printed a).2 = 0 → (Qt.printed b).2 = 0 → ((Qt.printed a).1 == (Qt.printed b).1) = (a == b) := by
  unfold Qt.printed
  by_cases ha : Utf.valid a = true
  · by_cases hb : Utf.valid b = true
    · rw [if_pos ha, if_pos hb]
      intro _ _
      rw [Bool.eq_iff_iff, beq_iff_eq, beq_iff_eq]
      exact ⟨Qt.print_inj ha hb, fun h => by rw [h]⟩
    · rw [if_neg hb]; intro _ h; simp at h
  · rw [if_neg ha]; intro h; simp at h
theorem printed_zero (a : List UInt8) : (Qt.printed a).2 = 0 ∨ (Qt.printed a).2 = 7 := by
  unfold Qt.printed; split <;> simp
theorem parse_len (l : List UInt8) : (Qt.parse l).1.length ≤ 4 * l.length := by
  have := Qt.scan_len l
  unfold Qt.parse
  split
  · simp
  · split
    · simp
    · exact this
theorem parse_told {l : List UInt8} : Qt.printed (Qt.parse l).1 = (Qt.print (Qt.parse l).1, 0) ∧ Qt.parse (Qt.print (Qt.parse l).1) = ((Qt.parse l).1, 0) := by
  have hv : Utf.valid (Qt.parse l).1 = true := by
    unfold Qt.parse
    split
    · rfl
    · split
      · rfl
      · exact (Qt.scan_valid l).1
  exact ⟨by unfold Qt.printed; rw [if_pos hv], parse_print hv⟩

set_option maxHeartbeats 4000000 in
set_option maxRecDepth 100000 in
theorem quoteapart_law (a b : List UInt8) (w : World) (hF : Forms w) : Calls Tryd.prog 7 #[.string (str a), .string (str b)] w fun e w' => e = .returned (.bool true) ∧ Below w.heap.size w w' := by
  have hwk := qwakes_any w hF
  go_enter Tryd.func7, Tryd.ntmps7
  go_wp2_with fail
  refine hwk.mono ?_
  rintro e w1 ⟨rfl, hB1⟩
  clear hwk
  by_cases h1 : 500 < a.length
  · have hd : decide ((500 : Int) < (a.length : Int)) = true := by simp; omega
    go_wp2
    go_ret
    exact ⟨rfl, hB1⟩
  · have hd : decide ((500 : Int) < (a.length : Int)) = false := by simp; omega
    by_cases h2 : 500 < b.length
    · have hd2 : decide ((500 : Int) < (b.length : Int)) = true := by simp; omega
      go_wp2
      go_ret
      exact ⟨rfl, hB1⟩
    · have hd2 : decide ((500 : Int) < (b.length : Int)) = false := by simp; omega
      have hF1 := hF.below hB1
      have c1 := fun W h => qprint_any a W h (by omega)
      have c2 := fun W h => qprint_any b W h (by omega)
      have c3 := fun W h => qparse_any a W h (by omega)
      have hx := parse_len a
      obtain ⟨t1, t2⟩ := parse_told (l := a)
      have c4 := fun W h => qprint_any (Qt.parse a).1 W h (by omega)
      rw [t1] at c4
      have hpl := Qt.print_len (Qt.parse a).1
      have c5 := fun W h => qparse_any (Qt.print (Qt.parse a).1) W h (by omega)
      rw [t2] at c5
      have hap := printed_apart a b
      have hza := printed_zero a
      have hzb := printed_zero b
      generalize Qt.print (Qt.parse a).1 = c at *
      generalize Qt.parse a = pa at *
      obtain ⟨x, g⟩ := pa
      generalize Qt.printed a = qa at *
      generalize Qt.printed b = qb at *
      obtain ⟨sa, ea⟩ := qa
      obtain ⟨sb, eb⟩ := qb
      simp only at c1 c2 c3 c4 c5 hap hza hzb
      have HA := Lib.hid (And.intro hap (And.intro hza hzb))
      clear t1 t2 hap hza hzb hpl hx
      go_wp2_with fail
      refine (c1 _ hF1).mono ?_
      rintro e w2 ⟨rfl, hB2⟩
      have hF2 := hF1.below hB2
      have hBa := hB1.trans (hB2.mono hB1.size)
      clear hB1 hB2 c1
      go_wp2_with fail
      refine (c2 _ hF2).mono ?_
      rintro e w3 ⟨rfl, hB3⟩
      have hF3 := hF2.below hB3
      have hBb := hBa.trans (hB3.mono hBa.size)
      clear hBa hB3 c2
      have hends : Hid (((ea : Int) == 0) = false ∨ (((ea : Int) == 0) = true ∧ ((eb : Int) == 0) = false) ∨ (((ea : Int) == 0) = true ∧ ((eb : Int) == 0) = true ∧ (sa == sb) = (a == b))) := by
        obtain ⟨h1, h2, h3⟩ := HA.out
        rcases h2 with rfl | rfl
        · rcases h3 with rfl | rfl
          · exact .inr (.inr ⟨rfl, rfl, h1 rfl rfl⟩)
          · exact .inr (.inl ⟨rfl, rfl⟩)
        · exact .inl rfl
      clear HA
      rcases hends.out with k1 | ⟨k1, k2⟩ | ⟨k1, k2, k3⟩
      all_goals
        clear hends
        go_wp2_with fail
        refine (c3 _ hF3).mono ?_
        rintro e w4 ⟨rfl, hB4⟩
        have hF4 := hF3.below hB4
        have hBc := hBb.trans (hB4.mono hBb.size)
        clear hBb hB4 c3
        go_wp2_with fail
        refine (c4 _ hF4).mono ?_
        rintro e w5 ⟨rfl, hB5⟩
        have hF5 := hF4.below hB5
        have hBd := hBc.trans (hB5.mono hBc.size)
        clear hBc hB5 c4
        go_wp2_with fail
        refine (c5 _ hF5).mono ?_
        rintro e w6 ⟨rfl, hB6⟩
        have hBe := hBd.trans (hB6.mono hBd.size)
        clear hBd hB6 c5
        by_cases hg : g = 0
        · have hgb : ((g : Int) != 0) = false := by simp; omega
          go_wp2
          go_ret
          exact ⟨rfl, hBe⟩
        · have hgb : ((g : Int) != 0) = true := by simp; omega
          go_wp2
          go_ret
          exact ⟨rfl, hBe⟩
end Go.Proofs.YtpoameaaoapiiaaDoor
