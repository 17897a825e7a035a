/- quote: escape. -/
import Derived.Test.YtpoameaaoapiiaaDoorQc2
namespace Go.Proofs.YtpoameaaoapiiaaDoor
open Go.RowKit

set_option maxHeartbeats 4000000 in
set_option maxRecDepth 1000000 in
theorem qescape_coded (b i : Nat) (l : List UInt8) (w : World) (hR : Qrd b l i w) (hF : Forms w) (hl : l.length ≤ 1000000000) (hlt : i < l.length) (hc : Qt.bt l i = 117)
    (q : Qt.Pt) (hq : q = Qt.coded (l.drop (i + 1))) :
    Calls Tryd.prog 20 #[.pointer (some ⟨b, 0, none⟩)] w (Qres b l w q (i + q.n - 1)) := by
  unfold Qt.coded at hq
  rw [List.drop_drop, show i + 1 + 4 = i + 5 by omega] at hq
  obtain ⟨n, e1, hne⟩ : ∃ n e, Qt.unitF 4 0 (l.drop (i + 1)) = (n, e) := ⟨_, _, rfl⟩
  rw [hne] at hq
  simp only at hq
  have hby := qbyte_ok b i l w hR hlt hl
  rw [hc] at hby
  have hsg := fun W => sgn_no 117 W (by omega) (by decide)
  by_cases h0 : e1 = 0
  · subst h0
    rw [if_neg (by simp)] at hq
    have hun := fun W hR => qunit_ok b (i + 1) n l W hR hl hne
    by_cases h1 : 56320 ≤ n ∧ n ≤ 57343
    · rw [if_pos h1] at hq
      have HQ2 := Lib.hid hq
      have c1 : decide ((n : Int) < 56320) = false := by simp; omega
      have c2 : decide ((57343 : Int) < (n : Int)) = false := by simp; omega
      clear hq h1 hne hc
      go_enter Tryd.func20, Tryd.ntmps20
      go_wp2_with fail
      refine hby.mono ?_
      rintro e w2 ⟨rfl, hR2, hE2⟩
      go_wp2_with fail
      refine (hsg _).mono ?_
      rintro e w3 ⟨rfl, rfl⟩
      go_wp2_with (first | (go_at_call 17; refine (must_yes _ _).mono ?_; rintro e w2 ⟨rfl, rfl⟩))
      refine (hun _ hR2).mono ?_
      rintro e w3 ⟨rfl, hR3, hE3⟩
      have HE3 := Lib.hid (hE2.trans hE3)
      clear hE2 hE3 hR2 hR3 hun hby hsg
      go_wp2_with fail
      refine (must_no' _ _ _ (by simp)).mono ?_
      rintro e w4 ⟨rfl, rfl⟩
      go_wp2
      exact ⟨rfl, Qres.no HQ2 (by decide) HE3.out⟩
    · rw [if_neg h1] at hq
      by_cases h2 : n < 55296 ∨ 57343 < n
      · rw [if_pos h2] at hq
        have HQ2 := Lib.hid hq
        have HH : Hid ((decide ((n : Int) < 56320) = true ∧ decide ((55296 : Int) ≤ (n : Int)) = false) ∨ (decide ((n : Int) < 56320) = false ∧ decide ((57343 : Int) < (n : Int)) = true ∧ decide ((55296 : Int) ≤ (n : Int)) = true)) := by
          unfold Hid; simp; omega
        clear hq h1 h2 hne hc
        go_enter Tryd.func20, Tryd.ntmps20
        go_wp2_with fail
        refine hby.mono ?_
        rintro e w2 ⟨rfl, hR2, hE2⟩
        go_wp2_with fail
        refine (hsg _).mono ?_
        rintro e w3 ⟨rfl, rfl⟩
        go_wp2_with (first | (go_at_call 17; refine (must_yes _ _).mono ?_; rintro e w2 ⟨rfl, rfl⟩))
        refine (hun _ hR2).mono ?_
        rintro e w3 ⟨rfl, hR3, hE3⟩
        have HE3 := Lib.hid (hE2.trans hE3)
        have HR3 := Lib.hid hR3
        have hput := utfput_any n w3 (forms_QE hF hR HE3.out)
        rw [encI_nat] at hput
        clear hE2 hE3 hR2 hR3 hun hby hsg
        rcases HH.out with ⟨c1, c2⟩ | ⟨c1, c2, c3⟩
        · clear HH
          go_wp2_with fail
          refine (must_yes' _ _ _ (by simp)).mono ?_
          rintro e w4 ⟨rfl, rfl⟩
          go_wp2_with fail
          refine hput.mono ?_
          rintro e w4 ⟨rfl, hB4⟩
          go_wp2
          go_returns
          exact Qres.yes HQ2 (HE3.out.trans (QE.of_below hB4)) (by rw [HQ2.out]; exact HR3.out.below hB4)
        · clear HH
          go_wp2_with fail
          refine (must_yes' _ _ _ (by simp)).mono ?_
          rintro e w4 ⟨rfl, rfl⟩
          go_wp2_with fail
          refine hput.mono ?_
          rintro e w4 ⟨rfl, hB4⟩
          go_wp2
          go_returns
          exact Qres.yes HQ2 (HE3.out.trans (QE.of_below hB4)) (by rw [HQ2.out]; exact HR3.out.below hB4)
      · rw [if_neg h2] at hq
        exact qescape_two b i n l w hR hF hl hlt hc hne (by omega) (by omega) q hq
  · rw [if_pos h0] at hq
    have HQ2 := Lib.hid hq
    have hun := fun W hR => qunit_no b (i + 1) n e1 l W hR hl hne h0
    clear hq hne hc
    go_enter Tryd.func20, Tryd.ntmps20
    go_wp2_with fail
    refine hby.mono ?_
    rintro e w2 ⟨rfl, hR2, hE2⟩
    go_wp2_with fail
    refine (hsg _).mono ?_
    rintro e w3 ⟨rfl, rfl⟩
    go_wp2_with (first | (go_at_call 17; refine (must_yes _ _).mono ?_; rintro e w2 ⟨rfl, rfl⟩))
    refine (hun _ hR2).mono ?_
    rintro e w3 ⟨rfl, hE3⟩
    go_wp2
    exact ⟨rfl, Qres.no HQ2 h0 (hE2.trans hE3)⟩

set_option maxHeartbeats 4000000 in
set_option maxRecDepth 1000000 in
theorem qescape_any (b i : Nat) (l : List UInt8) (w : World) (hR : Qrd b l i w) (hF : Forms w) (hl : l.length ≤ 1000000000) :
    Calls Tryd.prog 20 #[.pointer (some ⟨b, 0, none⟩)] w (Qres b l w (Qt.esc (l.drop i)) (i + (Qt.esc (l.drop i)).n - 1)) := by
  obtain ⟨q, hq⟩ : ∃ q, q = Qt.esc (l.drop i) := ⟨_, rfl⟩
  rw [← hq]
  rw [Qt.esc_at] at hq
  by_cases hA : i < l.length ∧ Qt.bt l i = 117
  · rw [if_neg (by omega), hA.2, if_neg (by decide), if_pos rfl] at hq
    exact qescape_coded b i l w hR hF hl hA.1 hA.2 q hq
  go_enter Tryd.func20, Tryd.ntmps20
  by_cases hlt : l.length ≤ i
  · rw [if_pos hlt] at hq
    have HQ := Lib.hid hq
    clear hq
    go_wp2_with fail
    refine (qbyte_no b i l w hR (by omega)).mono ?_
    rintro e w2 ⟨rfl, hE2⟩
    go_wp2
    exact ⟨rfl, Qres.no HQ (by decide) hE2⟩
  · rw [if_neg hlt] at hq
    have hby := qbyte_ok b i l w hR (by omega) hl
    have hc : Qt.bt l i < 256 := (l.getD i 0).toNat_lt
    obtain ⟨c, hcc⟩ : ∃ c, Qt.bt l i = c := ⟨_, rfl⟩
    have HC := Lib.hid hcc
    rw [hcc] at hby hc hq
    clear hcc
    by_cases hm : Qt.mean c ≠ 0
    · rw [if_pos hm] at hq
      obtain ⟨k, hk, hkm, hsg⟩ := sgn_yes c hc hm
      have HQ := Lib.hid hq
      have hw1 : IntKind.i64.wrap ((k : Int) + 1) = (k : Int) + 1 := IntWalk.i64_in _ (by omega)
      have hsl : ∀ W : World, (Instr.slice 9 (.string (ByteArray.mk #[34, 92, 47, 8, 12, 10, 13, 9])) (some (.int .i64 (k : Int))) (some (.int .i64 ((k : Int) + 1))) none).run Tryd.prog W = .ok (.string (str [UInt8.ofNat (Qt.mean c)])) W := fun W => by
        have h1 := run_slice_str W 9 meansL .i64 .i64 (k : Int) ((k : Int) + 1) Tryd.underlying9 ⟨by omega, by omega, by show (k : Int) + 1 ≤ 8; omega⟩
        rw [show ((k : Int) + 1).toNat - (k : Int).toNat = 1 by omega, Int.toNat_natCast, hkm] at h1
        exact h1
      clear hq hkm
      go_wp2_with fail
      refine hby.mono ?_
      rintro e w2 ⟨rfl, hR2, hE2⟩
      go_wp2_with fail
      refine (hsg _).mono ?_
      rintro e w3 ⟨rfl, rfl⟩
      go_wp2
      go_returns
      exact Qres.yes HQ hE2 (by rw [HQ.out]; exact hR2)
    · rw [if_neg hm] at hq
      have hsg := fun W => sgn_no c W hc (by simpa using hm)
      by_cases h117 : c = 117
      · exact absurd ⟨by omega, HC.out.trans h117⟩ hA
      · rw [if_neg h117] at hq
        have HQ := Lib.hid hq
        have hcb : ((c : Int) == 117) = false := by simp; omega
        clear hq hm h117
        go_wp2_with fail
        refine hby.mono ?_
        rintro e w2 ⟨rfl, hR2, hE2⟩
        go_wp2_with fail
        refine (hsg _).mono ?_
        rintro e w3 ⟨rfl, rfl⟩
        go_wp2_with (first | (go_at_call 17; refine (must_no _ _).mono ?_; rintro e w2 ⟨rfl, rfl⟩))
        exact ⟨rfl, Qres.no HQ (by decide) hE2⟩
end Go.Proofs.YtpoameaaoapiiaaDoor
