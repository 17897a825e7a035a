/- tabulariumref07: Scan. -/
import Derived.Test.YtpoameaaoapiiaaDoorQt
import Derived.Test.YtpoameaaoapiiaaDoorQpl
namespace Go.Proofs.YtpoameaaoapiiaaDoor
open Go.RowKit

set_option maxHeartbeats 4000000 in
set_option maxRecDepth 1000000 in
theorem rqscan_any (l : List UInt8) (w : World) (hl : l.length ≤ 1000000) :
    Calls Tryd.prog 10 #[.string (str l)] w fun e w' => e = .returned (ptv (Qt.scan l)) ∧ Below w.heap.size w w' := by
  obtain ⟨r, hr⟩ : ∃ r, r = Qt.scan l := ⟨_, rfl⟩
  rw [← hr]
  by_cases h0 : l.length = 0
  · obtain rfl := List.eq_nil_of_length_eq_zero h0
    have HR : Hid (r = ⟨[], 0, 2⟩) := hr
    clear hr h0
    go_enter Tryd.func10, Tryd.ntmps10
    go_wp2
    refine bodyPost_ret (v := ptv r) (by rw [ptv_eq HR]; simp [results, Tryd.results10, go_sem] <;> rfl) rfl ⟨rfl, ?_⟩
    (repeat' (first | (with_reducible exact Below.refl _ _) | (with_reducible assumption) | (with_reducible refine below_later' ?_ ?_ _ _) | (with_reducible refine Below.alloc ?_ ?_ _) | (with_reducible refine Below.setCell ?_ ?_ _) | (with_reducible refine Below.drew ?_) | (with_reducible refine below_drewN ?_ _) | (with_reducible exact Nat.le_refl _) | omega | (simp; done) | (simp; omega)))
  · have h0b : ((l.length : Int) == 0) = false := beq_eq_false_iff_ne.2 (by omega)
    have e1 : (0 : Int) ≤ 0 ∧ (0 : Int) < l.length := by omega
    have hix : nth l 0 = (Qt.bt l 0 : Int) := rfl
    by_cases h34 : Qt.bt l 0 = 34
    · have HR0 : Hid (r = Qt.go (l.drop 1) [] 1) := by
        unfold Hid
        rw [hr]
        cases l with
        | nil => exact absurd rfl h0
        | cons c t => rw [Qt.scan_cons, if_neg (by rw [show c.toNat = 34 from h34]; decide)]; rfl
      rw [h34] at hix
      have hix' : nth l 0 = 34 := hix
      clear hr h34 hix
      go_enter Tryd.func10, Tryd.ntmps10
      go_wp2
      go_loopw [3, 4] (fun sv iv wr => ∃ (s : List UInt8) (i d : Nat) (os : Array Obj), sv = .string (str s) ∧ iv = .int .i64 i ∧ Hid (wr = later (w.alloc (.cells #[.string ⟨#[]⟩, .int .i64 0, .int .i64 0] 27)) d os) ∧ i ≤ l.length ∧ s.length ≤ 4 * i ∧ Hid (r = Qt.go (l.drop i) s i)) (fun _ iv _ => l.length - (intOf iv).toNat)
      case atStart => exact ⟨[], 1, _, _, rfl, rfl, later_zero _, by omega, by simp, HR0.out⟩
      case round =>
        obtain ⟨s, i, d, os, rfl, rfl, HW, hi, hsl, HR⟩ := hrel
        clear HR0 hix'
        have hcon := fun W => rqpart_any l i W hi (by omega)
        have hw1 : IntKind.i64.wrap ((i : Int) + 1) = (i : Int) + 1 := IntWalk.i64_in _ (by omega)
        by_cases hlt : i < l.length ∧ Qt.bt l i = 34
        · have HR2 : Hid (r = ⟨s, i + 1, 0⟩) := by
            unfold Hid
            rw [HR.out, Qt.go_quote]
            rw [Qt.quote_at]; simp [hlt.1, hlt.2]
          have hix : nth l i = 34 := by show ((Qt.bt l i : Nat) : Int) = 34; rw [hlt.2]; rfl
          have e2 : 0 ≤ (i : Int) ∧ (i : Int) < l.length := by omega
          have d1 : decide (i < l.length) = true := decide_eq_true hlt.1
          clear hlt hcon HR
          obtain rfl := HW.out
          clear HW
          have e6 : ((i + 1 : Nat) : Int) = (i : Int) + 1 := by omega
          have hpv : ptv r = .agg #[.string (str s), .int .i64 ((i : Int) + 1), .int .i64 0] := by rw [ptv_eq HR2, e6]; rfl
          have HPV := Lib.hid hpv
          clear hpv e6 HR2
          go_wp2
          refine bodyPost_ret (v := ptv r) (by rw [HPV.out]; simp [results, Tryd.results10, go_sem] <;> rfl) rfl ⟨rfl, ?_⟩
          (repeat' (first | (with_reducible exact Below.refl _ _) | (with_reducible assumption) | (with_reducible refine below_later' ?_ ?_ _ _) | (with_reducible refine Below.alloc ?_ ?_ _) | (with_reducible refine Below.setCell ?_ ?_ _) | (with_reducible refine Below.drew ?_) | (with_reducible refine below_drewN ?_ _) | (with_reducible exact Nat.le_refl _) | omega | (simp; done) | (simp; omega)))
        · have hqh : Qt.quoteHead (l.drop i) = false := by
            rw [Qt.quote_at]
            cases h1 : decide (i < l.length)
            · rfl
            · simp only [Bool.true_and]
              exact decide_eq_false (fun h => hlt ⟨of_decide_eq_true h1, h⟩)
          have hgo := HR.out
          have hpl := Qt.part_len (l := l.drop i)
          have hpo := Qt.part_ok (l := l.drop i)
          have hge := Qt.go_err (l := l.drop i) s i hqh
          have hgp := Qt.go_part (l := l.drop i) s i hqh
          rw [← hgo, List.drop_drop] at hgp
          rw [← hgo] at hge
          rw [List.length_drop] at hpo
          obtain ⟨ps, n, e, hq⟩ : ∃ s n e, Qt.part (l.drop i) = ⟨s, n, e⟩ := ⟨_, _, _, rfl⟩
          rw [hq] at hcon hpl hpo hge hgp
          unfold ptv at hcon
          simp only at hcon hpl hpo hge hgp
          have HX := Lib.hid (And.intro hge hgp)
          have HY := Lib.hid (And.intro hpl hpo)
          clear hq hgo hge hgp hpl hpo HR hqh
          have hcase : Hid ((decide (i < l.length) = false) ∨ (decide (i < l.length) = true ∧ (0 ≤ (i : Int) ∧ (i : Int) < l.length) ∧ ((nth l i) == 34) = false)) := by
            by_cases h1 : i < l.length
            · refine .inr ⟨decide_eq_true h1, by omega, ?_⟩
              have h2 : Qt.bt l i ≠ 34 := fun h => hlt ⟨h1, h⟩
              have h3 : nth l i = (Qt.bt l i : Int) := rfl
              rw [h3]; simp; omega
            · exact .inl (decide_eq_false h1)
          clear hlt
          obtain rfl := HW.out
          clear HW
          rcases hcase.out with d1 | ⟨d1, e2, d2⟩
          all_goals
            clear hcase
            by_cases he : e = 0
            · have hgp := HX.out.2 he
              obtain ⟨hpl, hpo⟩ := HY.out
              have hpl := hpl he
              have hpo := hpo he
              have hw2 : IntKind.i64.wrap ((i : Int) + n) = (i : Int) + n := IntWalk.i64_in _ (by omega)
              have ha : ∀ W : World, (Op.stringOp .add (str s) (str ps)).run Tryd.prog W = .ok (.string (str (s ++ ps))) W := fun W => run_add_str W s ps (by omega)
              have HG := Lib.hid hgp
              subst he
              clear HX HY hgp
              go_wp2_with fail
              refine (hcon _).mono ?_
              rintro e' w2 ⟨rfl, hB⟩
              obtain ⟨d3, os3, rfl⟩ := later_of_below hB
              clear hB
              go_wp2
              go_roundw
              case rel =>
                obtain ⟨d4, os4, h4⟩ := later_of_below (w := w.alloc (.cells #[.string ⟨#[]⟩, .int .i64 0, .int .i64 0] 27)) (w' := (later (later (w.alloc (.cells #[.string ⟨#[]⟩, .int .i64 0, .int .i64 0] 27)) d os) d3 os3).alloc (.cells #[.string (str ps), .int .i64 n, .int .i64 0] 27)) (by (repeat' (first | (with_reducible exact Below.refl _ _) | (with_reducible assumption) | (with_reducible refine below_later' ?_ ?_ _ _) | (with_reducible refine Below.alloc ?_ ?_ _) | (with_reducible refine Below.setCell ?_ ?_ _) | (with_reducible refine Below.drew ?_) | (with_reducible refine below_drewN ?_ _) | (with_reducible exact Nat.le_refl _) | omega | (simp; done) | (simp; omega))))
                exact ⟨s ++ ps, i + n, d4, os4, rfl, by simp, h4, by omega, by rw [List.length_append]; omega, HG.out⟩
              case measure => simp [intOf]; omega
            · have HR2 : Hid (r = ⟨[], 0, e⟩) := HX.out.1 he
              have heb : ((e : Int) != 0) = true := by simp; omega
              clear HX HY
              go_wp2_with fail
              refine (hcon _).mono ?_
              rintro e' w2 ⟨rfl, hB⟩
              obtain ⟨d3, os3, rfl⟩ := later_of_below hB
              clear hB
              go_wp2
              refine bodyPost_ret (v := ptv r) (by rw [ptv_eq HR2]; simp [results, Tryd.results10, go_sem] <;> rfl) rfl ⟨rfl, ?_⟩
              (repeat' (first | (with_reducible exact Below.refl _ _) | (with_reducible assumption) | (with_reducible refine below_later' ?_ ?_ _ _) | (with_reducible refine Below.alloc ?_ ?_ _) | (with_reducible refine Below.setCell ?_ ?_ _) | (with_reducible refine Below.drew ?_) | (with_reducible refine below_drewN ?_ _) | (with_reducible exact Nat.le_refl _) | omega | (simp; done) | (simp; omega)))
    · have HR : Hid (r = ⟨[], 0, 3⟩) := by
        unfold Hid
        rw [hr]
        cases l with
        | nil => exact absurd rfl h0
        | cons c t => rw [Qt.scan_cons, if_pos (show c.toNat ≠ 34 from h34)]; rfl
      have hnb : ((Qt.bt l 0 : Int) != 34) = true := by simp; omega
      clear hr h34
      go_enter Tryd.func10, Tryd.ntmps10
      go_wp2
      refine bodyPost_ret (v := ptv r) (by rw [ptv_eq HR]; simp [results, Tryd.results10, go_sem] <;> rfl) rfl ⟨rfl, ?_⟩
      (repeat' (first | (with_reducible exact Below.refl _ _) | (with_reducible assumption) | (with_reducible refine below_later' ?_ ?_ _ _) | (with_reducible refine Below.alloc ?_ ?_ _) | (with_reducible refine Below.setCell ?_ ?_ _) | (with_reducible refine Below.drew ?_) | (with_reducible refine below_drewN ?_ _) | (with_reducible exact Nat.le_refl _) | omega | (simp; done) | (simp; omega)))
end Go.Proofs.YtpoameaaoapiiaaDoor
