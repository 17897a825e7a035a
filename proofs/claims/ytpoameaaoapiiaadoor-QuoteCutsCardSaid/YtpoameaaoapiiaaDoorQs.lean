/- tabulariumref07: coded. -/
import Derived.Test.YtpoameaaoapiiaaDoorQr
import Derived.Test.YtpoameaaoapiiaaDoorGrow
import Derived.Test.YtpoameaaoapiiaaDoorUw12a
import Derived.Deep.RegionHeld3
namespace Go.Proofs.YtpoameaaoapiiaaDoor
open Go.RowKit

/-- A part, as a value. -/
def ptv (q : Qt.Pt) : Value := .agg #[.string (str q.s), .int .i64 q.n, .int .i64 q.e]
theorem ptv_eq {s : List UInt8} {n e : Nat} {q : Qt.Pt} (h : Hid (q = ⟨s, n, e⟩)) : ptv q = .agg #[.string (str s), .int .i64 n, .int .i64 e] := by rw [h.out]; rfl
theorem later_zero (w : World) : w = later w w.drawn #[] := by simp [later]
theorem nth_bt (l : List UInt8) (i : Nat) : nth l i = (Qt.bt l i : Int) := rfl
theorem bt_lt (l : List UInt8) (i : Nat) : Qt.bt l i < 256 := (l.getD i 0).toNat_lt

set_option maxHeartbeats 4000000 in
set_option maxRecDepth 1000000 in
theorem rqcoded_any (l : List UInt8) (p : Nat) (w : World) (hp : p ≤ l.length) (hl : l.length ≤ 1000000000) :
    Calls Tryd.prog 35 #[.string (str l), .int .i64 p] w fun e w' => e = .returned (ptv (Qt.coded (l.drop (p + 2)))) ∧ Below w.heap.size w w' := by
  obtain ⟨r, hr⟩ : ∃ r, r = Qt.coded (l.drop (p + 2)) := ⟨_, rfl⟩
  rw [← hr]
  unfold Qt.coded at hr
  have hu := fun W => rqunit_any l (p + 2) W (by omega)
  have hv := fun W => rqunit_any l (p + 8) W (by omega)
  have hlow := fun n => Qt.low_at n l (p + 6)
  rw [List.drop_drop, show p + 2 + 4 = p + 6 by omega] at hr
  have hlt := Qt.unit_lt (l.drop (p + 2))
  have hlt2 := Qt.unit_lt (l.drop (p + 8))
  unfold Qt.low2 at hlow
  rw [show p + 6 + 2 = p + 8 by omega] at hlow
  obtain ⟨n, e, hne⟩ : ∃ n e, Qt.unitF 4 0 (l.drop (p + 2)) = (n, e) := ⟨_, _, rfl⟩
  obtain ⟨m, f, hmf⟩ : ∃ m f, Qt.unitF 4 0 (l.drop (p + 8)) = (m, f) := ⟨_, _, rfl⟩
  rw [hne] at hr hu hlt
  rw [hmf] at hlow hv hlt2
  have e2 : ((p + 2 : Nat) : Int) = (p : Int) + 2 := by omega
  have e8 : ((p + 8 : Nat) : Int) = (p : Int) + 8 := by omega
  rw [e2] at hu
  rw [e8] at hv
  simp only at hr hu hv hlow hlt hlt2
  clear hne hmf e2 e8
  rw [hlow] at hr
  clear hlow
  have hw2 : IntKind.i64.wrap ((p : Int) + 2) = (p : Int) + 2 := IntWalk.i64_in _ (by omega)
  have hw8 : IntKind.i64.wrap ((p : Int) + 8) = (p : Int) + 8 := IntWalk.i64_in _ (by omega)
  have hw6 : IntKind.i64.wrap ((p : Int) + 6) = (p : Int) + 6 := IntWalk.i64_in _ (by omega)
  go_enter Tryd.func35, Tryd.ntmps35
  go_wp2_with fail
  refine (hu _).mono ?_
  rintro e' w2 ⟨rfl, rfl⟩
  by_cases h1 : e = 0
  · rw [if_neg (by simpa using h1)] at hr
    subst h1
    by_cases h2 : 56320 ≤ n ∧ n ≤ 57343
    · rw [if_pos h2] at hr
      have HR := Lib.hid hr
      clear hr hv
      go_wp2
      refine bodyPost_ret (v := ptv r) (by rw [ptv_eq HR]; simp [results, Tryd.results35, go_sem] <;> rfl) rfl ⟨rfl, ?_⟩
      (repeat' (first | (with_reducible exact Below.refl _ _) | (with_reducible assumption) | (with_reducible refine below_later' ?_ ?_ _ _) | (with_reducible refine Below.alloc ?_ ?_ _) | (with_reducible refine Below.setCell ?_ ?_ _) | (with_reducible refine Below.drew ?_) | (with_reducible refine below_drewN ?_ _) | (with_reducible exact Nat.le_refl _) | omega | (simp; done) | (simp; omega)))
    · rw [if_neg h2] at hr
      by_cases h3 : n < 55296 ∨ 57343 < n
      · rw [if_pos h3] at hr
        have HR := Lib.hid hr
        clear hr hv
        go_wp2_with fail
        all_goals
        refine (refput_any n _).mono ?_
        rintro e w3 ⟨rfl, hB3⟩
        obtain ⟨d3, os3, rfl⟩ := later_of_below hB3
        clear hB3
        rw [encI_nat]
        go_wp2
        refine bodyPost_ret (v := ptv r) (by rw [ptv_eq HR]; simp [results, Tryd.results35, go_sem] <;> rfl) rfl ⟨rfl, ?_⟩
        (repeat' (first | (with_reducible exact Below.refl _ _) | (with_reducible assumption) | (with_reducible refine below_later' ?_ ?_ _ _) | (with_reducible refine Below.alloc ?_ ?_ _) | (with_reducible refine Below.setCell ?_ ?_ _) | (with_reducible refine Below.drew ?_) | (with_reducible refine below_drewN ?_ _) | (with_reducible exact Nat.le_refl _) | omega | (simp; done) | (simp; omega)))
      · rw [if_neg h3] at hr
        have hn1 : 55296 ≤ n ∧ n < 56320 := by omega
        go_wp2
        go_loopw [7] (fun iv wr => ∃ (i d : Nat) (os : Array Obj), iv = .int .i64 i ∧ Hid (wr = later (w.alloc (.cells #[.string ⟨#[]⟩, .int .i64 0, .int .i64 0] 27)) d os) ∧ i ≤ 2 ∧ Hid (∀ j, j < i → p + 6 + j < l.length ∧ Qt.bt l (p + 6 + j) = if j = 0 then 92 else 117)) (fun iv _ => 2 - (intOf iv).toNat)
        case atStart => exact ⟨0, _, _, rfl, later_zero _, by omega, fun j h => by omega⟩
        case round =>
          obtain ⟨i, d, os, rfl, HW, hi, HS⟩ := hrel
          have HN1 := Lib.hid (And.intro hn1 (And.intro hlt hlt2))
          clear hn1 hlt hlt2 h2 h3
          by_cases hi2 : i < 2
          · have hw3 : IntKind.i64.wrap ((p : Int) + 6 + i) = (p : Int) + 6 + i := IntWalk.i64_in _ (by omega)
            by_cases hq : p + 6 + i < l.length
            · obtain ⟨b, hb⟩ : ∃ b, b = Qt.bt l (p + 6 + i) := ⟨_, rfl⟩
              have hix : nth l (p + 6 + i) = (b : Int) := by rw [hb]; rfl
              have hb256 := bt_lt l (p + 6 + i)
              rw [← hb] at hb256
              have e1 : ((p : Int) + 6 + i).toNat = p + 6 + i := by omega
              have e2 : 0 ≤ (p : Int) + 6 + i ∧ (p : Int) + 6 + i < l.length := by omega
              obtain ⟨s, hs⟩ : ∃ s : Nat, s = if i = 0 then 92 else 117 := ⟨_, rfl⟩
              have hsel : (#[Value.int .u8 92, Value.int .u8 117] : Array Value)[i]? = some (.int .u8 (s : Int)) := by
                have h01 : i = 0 ∨ i = 1 := by omega
                rcases h01 with rfl | rfl <;> rw [hs] <;> rfl
              have hsel2 : ([Value.int .u8 92, Value.int .u8 117][i]'(by simpa using hi2)) = Value.int .u8 (s : Int) := by
                have h01 : i = 0 ∨ i = 1 := by omega
                rcases h01 with rfl | rfl <;> rw [hs] <;> rfl
              have HS3 := Lib.hid hs
              have HB := Lib.hid hb
              have HR := Lib.hid hr
              have HU := Lib.hid hu
              have HV := Lib.hid hv
              clear hb hs hr hu hv
              go_upto_region 13 with (fail)
              go_big_region
              have hB0 : Hid (∃ d1 os1, wr.alloc (.cells #[Value.int .u8 92, Value.int .u8 117] 5) = later (w.alloc (.cells #[.string ⟨#[]⟩, .int .i64 0, .int .i64 0] 27)) d1 os1) := by
                rw [HW.out]
                exact later_of_below (by
                  refine Below.alloc (below_later _ _ _) ?_ _
                  simp)
              by_cases hbs : b = s
              · have HBS := Lib.hid hbs
                have hbsb : ((b : Int) != s) = false := by simp; omega
                go_wp2
                go_roundw
                case rel =>
                  obtain ⟨d1, os1, hW1⟩ := hB0.out
                  refine ⟨i + 1, d1 + 1, os1, by simp, ?_, by omega, ?_⟩
                  · unfold Hid; rw [hW1]; rfl
                  · intro j hj
                    rcases Nat.lt_or_ge j i with g | g
                    · exact HS.out j g
                    · obtain rfl : j = i := by omega
                      exact ⟨hq, by rw [← HB.out, HBS.out, HS3.out]⟩
                case measure => simp [intOf]; omega
              · have HBS := Lib.hid hbs
                have hbsb : ((b : Int) != s) = true := by simp; omega
                have HR3 : Hid (r = ⟨[], 0, 3⟩) := by
                  have h01 : i = 0 ∨ i = 1 := by omega
                  rcases h01 with rfl | rfl
                  · have e92 : s = 92 := by rw [HS3.out]; rfl
                    have hne92 : Qt.bt l (p + 6) ≠ 92 := fun e => HBS.out (by rw [HB.out, e92]; exact e)
                    unfold Hid
                    rw [HR.out, if_neg (by omega), if_pos hne92]; rfl
                  · have e117 : s = 117 := by rw [HS3.out]; rfl
                    have h0 := (HS.out 0 (by omega)).2
                    have hne117 : Qt.bt l (p + 6 + 1) ≠ 117 := fun e => HBS.out (by rw [HB.out, e117]; exact e)
                    unfold Hid
                    rw [HR.out, if_neg (by omega), if_neg (by simpa using h0), if_neg (by omega), if_pos hne117]; rfl
                obtain ⟨d1, os1, hW1⟩ := hB0.out
                rw [hW1]
                clear hB0 hW1 HW
                go_wp2
                refine bodyPost_ret (v := ptv r) (by rw [ptv_eq HR3]; simp [results, Tryd.results35, go_sem] <;> rfl) rfl ⟨rfl, ?_⟩
                (repeat' (first | (with_reducible exact Below.refl _ _) | (with_reducible assumption) | (with_reducible refine below_later' ?_ ?_ _ _) | (with_reducible refine Below.alloc ?_ ?_ _) | (with_reducible refine Below.setCell ?_ ?_ _) | (with_reducible refine Below.drew ?_) | (with_reducible refine below_drewN ?_ _) | (with_reducible exact Nat.le_refl _) | omega | (simp; done) | (simp; omega)))
            · have HR2 : Hid (r = ⟨[], 0, 2⟩) := by
                have h01 : i = 0 ∨ i = 1 := by omega
                rcases h01 with rfl | rfl
                · unfold Hid
                  rw [hr, if_pos (by omega)]; rfl
                · have h0 := (HS.out 0 (by omega)).2
                  have h0l := (HS.out 0 (by omega)).1
                  unfold Hid
                  rw [hr, if_neg (by omega), if_neg (by simpa using h0), if_pos (by omega)]; rfl
              clear hr hv hu
              obtain rfl := HW.out
              clear HW
              go_wp2
              refine bodyPost_ret (v := ptv r) (by rw [ptv_eq HR2]; simp [results, Tryd.results35, go_sem] <;> rfl) rfl ⟨rfl, ?_⟩
              (repeat' (first | (with_reducible exact Below.refl _ _) | (with_reducible assumption) | (with_reducible refine below_later' ?_ ?_ _ _) | (with_reducible refine Below.alloc ?_ ?_ _) | (with_reducible refine Below.setCell ?_ ?_ _) | (with_reducible refine Below.drew ?_) | (with_reducible refine below_drewN ?_ _) | (with_reducible exact Nat.le_refl _) | omega | (simp; done) | (simp; omega)))
          · obtain rfl : i = 2 := by omega
            have h0 := HS.out 0 (by omega)
            have h1' := HS.out 1 (by omega)
            rw [if_neg (by omega), if_neg (by simpa using h0.2), if_neg (by omega), if_neg (by simpa using h1'.2)] at hr
            clear h0 h1' HS
            obtain rfl := HW.out
            clear HW
            go_wp2_with fail
            refine (hv _).mono ?_
            rintro e' w3 ⟨rfl, rfl⟩
            by_cases g1 : f = 0
            · rw [if_neg (by simpa using g1)] at hr
              subst g1
              by_cases g2 : m < 56320 ∨ 57343 < m
              · rw [if_pos g2] at hr
                have HR := Lib.hid hr
                clear hr hv hu
                rcases g2 with g2 | g2
                · have gb : decide ((m : Int) < 56320) = true := by simp; omega
                  clear g2
                  go_wp2
                  refine bodyPost_ret (v := ptv r) (by rw [ptv_eq HR]; simp [results, Tryd.results35, go_sem] <;> rfl) rfl ⟨rfl, ?_⟩
                  (repeat' (first | (with_reducible exact Below.refl _ _) | (with_reducible assumption) | (with_reducible refine below_later' ?_ ?_ _ _) | (with_reducible refine Below.alloc ?_ ?_ _) | (with_reducible refine Below.setCell ?_ ?_ _) | (with_reducible refine Below.drew ?_) | (with_reducible refine below_drewN ?_ _) | (with_reducible exact Nat.le_refl _) | omega | (simp; done) | (simp; omega)))
                · have gb : decide ((m : Int) < 56320) = false := by simp; omega
                  have gc : decide ((57343 : Int) < m) = true := by simp; omega
                  clear g2
                  go_wp2
                  refine bodyPost_ret (v := ptv r) (by rw [ptv_eq HR]; simp [results, Tryd.results35, go_sem] <;> rfl) rfl ⟨rfl, ?_⟩
                  (repeat' (first | (with_reducible exact Below.refl _ _) | (with_reducible assumption) | (with_reducible refine below_later' ?_ ?_ _ _) | (with_reducible refine Below.alloc ?_ ?_ _) | (with_reducible refine Below.setCell ?_ ?_ _) | (with_reducible refine Below.drew ?_) | (with_reducible refine below_drewN ?_ _) | (with_reducible exact Nat.le_refl _) | omega | (simp; done) | (simp; omega)))
              · rw [if_neg g2] at hr
                have HR := Lib.hid hr
                clear hr hv hu
                have hm1 : 56320 ≤ m ∧ m ≤ 57343 := by omega
                obtain ⟨hn1, hlt, hlt2⟩ := HN1.out
                have gb : decide ((m : Int) < 56320) = false := by simp; omega
                have gc : decide ((57343 : Int) < m) = false := by simp; omega
                have x1 : IntKind.i64.wrap ((n : Int) - 55296) = (n : Int) - 55296 := IntWalk.i64_in _ (by omega)
                have x2 : IntKind.i64.wrap (((n : Int) - 55296) * 1024) = ((n : Int) - 55296) * 1024 := IntWalk.i64_in _ (by omega)
                have x3 : IntKind.i64.wrap (65536 + ((n : Int) - 55296) * 1024) = 65536 + ((n : Int) - 55296) * 1024 := IntWalk.i64_in _ (by omega)
                have x4 : IntKind.i64.wrap (65536 + ((n : Int) - 55296) * 1024 + m) = 65536 + ((n : Int) - 55296) * 1024 + m := IntWalk.i64_in _ (by omega)
                have x5 : IntKind.i64.wrap (65536 + ((n : Int) - 55296) * 1024 + m - 56320) = ((65536 + (n - 55296) * 1024 + m - 56320 : Nat) : Int) := by
                  rw [IntWalk.i64_in _ (by omega)]; omega
                obtain ⟨q, hq⟩ : ∃ q : Nat, q = 65536 + (n - 55296) * 1024 + m - 56320 := ⟨_, rfl⟩
                have HR2 : Hid (r = ⟨Utf.enc q, 12, 0⟩) := by rw [hq]; exact HR
                rw [← hq] at x5
                clear hq HR hm1 g2 hn1 hlt hlt2
                go_wp2_with fail
                all_goals
                refine (refput_any q _).mono ?_
                rintro e w3 ⟨rfl, hB3⟩
                obtain ⟨d3, os3, rfl⟩ := later_of_below hB3
                clear hB3
                rw [encI_nat]
                go_wp2
                refine bodyPost_ret (v := ptv r) (by rw [ptv_eq HR2]; simp [results, Tryd.results35, go_sem] <;> rfl) rfl ⟨rfl, ?_⟩
                (repeat' (first | (with_reducible exact Below.refl _ _) | (with_reducible assumption) | (with_reducible refine below_later' ?_ ?_ _ _) | (with_reducible refine Below.alloc ?_ ?_ _) | (with_reducible refine Below.setCell ?_ ?_ _) | (with_reducible refine Below.drew ?_) | (with_reducible refine below_drewN ?_ _) | (with_reducible exact Nat.le_refl _) | omega | (simp; done) | (simp; omega)))
            · rw [if_pos g1] at hr
              have HR := Lib.hid hr
              have g1b : ((f : Int) != 0) = true := by simp; omega
              clear hr hv hu
              go_wp2
              refine bodyPost_ret (v := ptv r) (by rw [ptv_eq HR]; simp [results, Tryd.results35, go_sem] <;> rfl) rfl ⟨rfl, ?_⟩
              (repeat' (first | (with_reducible exact Below.refl _ _) | (with_reducible assumption) | (with_reducible refine below_later' ?_ ?_ _ _) | (with_reducible refine Below.alloc ?_ ?_ _) | (with_reducible refine Below.setCell ?_ ?_ _) | (with_reducible refine Below.drew ?_) | (with_reducible refine below_drewN ?_ _) | (with_reducible exact Nat.le_refl _) | omega | (simp; done) | (simp; omega)))
  · rw [if_pos h1] at hr
    have HR := Lib.hid hr
    have h1b : ((e : Int) != 0) = true := by simp; omega
    clear hr hv
    go_wp2
    refine bodyPost_ret (v := ptv r) (by rw [ptv_eq HR]; simp [results, Tryd.results35, go_sem] <;> rfl) rfl ⟨rfl, ?_⟩
    (repeat' (first | (with_reducible exact Below.refl _ _) | (with_reducible assumption) | (with_reducible refine below_later' ?_ ?_ _ _) | (with_reducible refine Below.alloc ?_ ?_ _) | (with_reducible refine Below.setCell ?_ ?_ _) | (with_reducible refine Below.drew ?_) | (with_reducible refine below_drewN ?_ _) | (with_reducible exact Nat.le_refl _) | omega | (simp; done) | (simp; omega)))
end Go.Proofs.YtpoameaaoapiiaaDoor
