/- tabulariumlaw02.UtfPuts. -/
import Derived.Test.YtikelcbceoilpaaDoorUl1
namespace Go.Proofs.YtikelcbceoilpaaDoor
open Go.RowKit

theorem all_enc {n : Nat} (hs : Utf.scalar n = true) : Utf.all (Utf.enc n) = [(0, n)] ∧ Utf.valid (Utf.enc n) = true := by
  have hn := Utf.next_enc hs []
  rw [List.append_nil] at hn
  have hl : (Utf.enc n).length ≠ 0 := fun e => by
    rw [List.length_eq_zero_iff, Utf.enc_nil, hs] at e
    cases e
  have hsc := Utf.scan_ok (l := Utf.enc n) (p := 0) (by rw [hn]; exact hl)
  rw [hn] at hsc
  simp only [List.drop_length, Utf.scan_nil] at hsc
  refine ⟨by unfold Utf.all; rw [hsc], ?_⟩
  rw [Utf.valid_iff, hsc]
set_option maxHeartbeats 1000000 in
set_option maxRecDepth 100000 in
theorem utfputs_law (c : Int) (w : World) (hF : Forms w) : Calls Tryd.prog 5 #[.int .i64 c] w fun e w' => e = .returned (.bool true) ∧ Below w.heap.size w w' := by
  have c1 := fun W hW => utfput_any c W hW
  have c2 := fun W => refput_any c W
  by_cases hs : scalarI c = true
  · rw [hs] at c1
    have hs2 := hs
    rw [scalarI_eq, decide_eq_true_eq] at hs2
    obtain ⟨n, rfl⟩ : ∃ n : Nat, c = n := ⟨c.toNat, by omega⟩
    rw [scalarI_nat] at hs
    rw [encI_nat] at c1 c2
    obtain ⟨ha, hv⟩ := all_enc hs
    have hle := Utf.enc_length_le n
    have c3 := fun W hW => valid_any (Utf.enc n) W hW (by omega)
    have c4 := fun W hW => told_any (Utf.enc n) 9 W hW (by omega) (by omega)
    rw [hv] at c3
    rw [ha] at c4
    have hne : Utf.enc n ≠ [] := by rw [ne_eq, Utf.enc_nil, hs]; simp
    generalize Utf.enc n = en at *
    have hq1 : (en == en) = true := beq_self_eq_true en
    have hq2 : (en == []) = false := by rw [beq_eq_false_iff_ne]; exact hne
    clear ha hv hs hs2
    go_enter Tryd.func5, Tryd.ntmps5
    go_wp2_with fail
    refine (wakes_any w hF).mono ?_
    rintro e w1 ⟨rfl, hB1⟩
    go_wp2_with fail
    refine (c1 w1 (hF.below hB1)).mono ?_
    rintro e w2 ⟨rfl, hB2⟩
    have hB2' := hB1.trans (hB2.mono hB1.size)
    go_wp2_with fail
    refine (c2 w2).mono ?_
    rintro e w3 ⟨rfl, hB3⟩
    have hB3' := hB2'.trans (hB3.mono hB2'.size)
    go_wp2_with fail
    refine (c3 w3 (hF.below hB3')).mono ?_
    rintro e w4 ⟨rfl, hB4⟩
    have hB4' := hB3'.trans (hB4.mono hB3'.size)
    go_wp2_with fail
    refine (c4 w4 (hF.below hB4')).mono ?_
    rintro e w5 ⟨A, m, cc, rfl, hown, hB5⟩
    have hB5' := hB4'.trans (hB5.mono hB4'.size)
    have hr := Rd.of_own hown
    go_wp2_with fail
    refine (same_any [(0, n)] [(0, n)] A _ m cc 1 1 _ (hr.alloc _) (Rd.newE w5 30 [.int .i64 0, .int .i64 (n : Int)] 2 rfl)).mono ?_
    rintro e w6 ⟨rfl, hB6⟩
    have hB6' := (hB5'.alloc hB5'.size (.cells #[.int .i64 0, .int .i64 (n : Int)] 30)).trans (hB6.mono (hB5'.alloc hB5'.size _).size)
    go_wp2
    go_ret
    exact ⟨rfl, hB6'⟩
  · rw [Bool.not_eq_true] at hs
    rw [hs, encI_none hs] at c1
    rw [encI_none hs] at c2
    go_enter Tryd.func5, Tryd.ntmps5
    go_wp2_with fail
    refine (wakes_any w hF).mono ?_
    rintro e w1 ⟨rfl, hB1⟩
    go_wp2_with fail
    refine (c1 w1 (hF.below hB1)).mono ?_
    rintro e w2 ⟨rfl, hB2⟩
    have hB2' := hB1.trans (hB2.mono hB1.size)
    go_wp2_with fail
    refine (c2 w2).mono ?_
    rintro e w3 ⟨rfl, hB3⟩
    have hB3' := hB2'.trans (hB3.mono hB2'.size)
    go_wp2
    go_ret
    exact ⟨rfl, hB3'⟩
theorem utfputs_law' (c : Int) (w : World) (_ : (Lit.int .i64 c).wf = true) (hF : Forms w) : Calls Tryd.prog 5 #[.int .i64 c] w fun e w' => e = .returned (.bool true) ∧ Below w.heap.size w w' := utfputs_law c w hF
end Go.Proofs.YtikelcbceoilpaaDoor
