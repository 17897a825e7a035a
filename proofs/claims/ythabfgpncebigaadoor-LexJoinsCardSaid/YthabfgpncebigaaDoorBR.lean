/- tabulariumref07: coded. tabulariumref07: part. tabulariumref07: Scan. -/
import Derived.Test.YthabfgpncebigaaDoorBQ
import Derived.Test.YthabfgpncebigaaDoorBA
import Derived.Test.YthabfgpncebigaaDoorBU
import Derived.Deep.RegionHeld3

/- tabulariumref07: coded. -/
namespace Go.Proofs.YthabfgpncebigaaDoor
open Go.RowKit

/-- A part, as a value. -/
def ptv (q : Qt.Pt) : Value := .agg #[.string (str q.s), .int .i64 q.n, .int .i64 q.e]
theorem ptv_eq {s : List UInt8} {n e : Nat} {q : Qt.Pt} (h : Hid (q = ⟨s, n, e⟩)) : ptv q = .agg #[.string (str s), .int .i64 n, .int .i64 e] := by rw [h.out]; rfl
theorem later_zero (w : World) : w = later w w.drawn #[] := by simp [later]
theorem nth_bt (l : List UInt8) (i : Nat) : nth l i = (Qt.bt l i : Int) := rfl
theorem bt_lt (l : List UInt8) (i : Nat) : Qt.bt l i < 256 := (l.getD i 0).toNat_lt

set_option maxHeartbeats 4000000 in
set_option maxRecDepth 1000000 in
theorem rqcoded_any (l : List UInt8) (p : Nat) (w : World) (hp : p ≤ l.length) (hl : l.length ≤ 1000000000) :
    Calls Tryd.prog 81 #[.string (str l), .int .i64 p] w fun e w' => e = .returned (ptv (Qt.coded (l.drop (p + 2)))) ∧ Below w.heap.size w w' := by
  obtain ⟨r, hr⟩ : ∃ r, r = Qt.coded (l.drop (p + 2)) := ⟨_, rfl⟩
  rw [← hr]
  unfold Qt.coded at hr
  have hu := fun W => rqunit_any l (p + 2) W (by omega)
  have hv := fun W => rqunit_any l (p + 8) W (by omega)
  have hlow := fun n => Qt.low_at n l (p + 6)
  rw [List.drop_drop, show p + 2 + 4 = p + 6 by omega] at hr
  have hlt := Qt.unit_lt (l.drop (p + 2))
  have hlt2 := Qt.unit_lt (l.drop (p + 8))
  unfold Qt.low2 at hlow
  rw [show p + 6 + 2 = p + 8 by omega] at hlow
  obtain ⟨n, e, hne⟩ : ∃ n e, Qt.unitF 4 0 (l.drop (p + 2)) = (n, e) := ⟨_, _, rfl⟩
  obtain ⟨m, f, hmf⟩ : ∃ m f, Qt.unitF 4 0 (l.drop (p + 8)) = (m, f) := ⟨_, _, rfl⟩
  rw [hne] at hr hu hlt
  rw [hmf] at hlow hv hlt2
  have e2 : ((p + 2 : Nat) : Int) = (p : Int) + 2 := by omega
  have e8 : ((p + 8 : Nat) : Int) = (p : Int) + 8 := by omega
  rw [e2] at hu
  rw [e8] at hv
  simp only at hr hu hv hlow hlt hlt2
  clear hne hmf e2 e8
  rw [hlow] at hr
  clear hlow
  have hw2 : IntKind.i64.wrap ((p : Int) + 2) = (p : Int) + 2 := IntWalk.i64_in _ (by omega)
  have hw8 : IntKind.i64.wrap ((p : Int) + 8) = (p : Int) + 8 := IntWalk.i64_in _ (by omega)
  have hw6 : IntKind.i64.wrap ((p : Int) + 6) = (p : Int) + 6 := IntWalk.i64_in _ (by omega)
  go_enter Tryd.func81, Tryd.ntmps81
  go_wp2_with fail
  refine (hu _).mono ?_
  rintro e' w2 ⟨rfl, rfl⟩
  by_cases h1 : e = 0
  · rw [if_neg (by simpa using h1)] at hr
    subst h1
    by_cases h2 : 56320 ≤ n ∧ n ≤ 57343
    · rw [if_pos h2] at hr
      have HR := Lib.hid hr
      clear hr hv
      go_wp2
      refine bodyPost_ret (v := ptv r) (by rw [ptv_eq HR]; simp [results, Tryd.results81, go_sem] <;> rfl) rfl ⟨rfl, ?_⟩
      (repeat' (first | (with_reducible exact Below.refl _ _) | (with_reducible assumption) | (with_reducible refine below_later' ?_ ?_ _ _) | (with_reducible refine Below.alloc ?_ ?_ _) | (with_reducible refine Below.setCell ?_ ?_ _) | (with_reducible refine Below.drew ?_) | (with_reducible refine below_drewN ?_ _) | (with_reducible exact Nat.le_refl _) | omega | (simp; done) | (simp; omega)))
    · rw [if_neg h2] at hr
      by_cases h3 : n < 55296 ∨ 57343 < n
      · rw [if_pos h3] at hr
        have HR := Lib.hid hr
        clear hr hv
        go_wp2_with fail
        all_goals
        refine (refput_any n _).mono ?_
        rintro e w3 ⟨rfl, hB3⟩
        obtain ⟨d3, os3, rfl⟩ := later_of_below hB3
        clear hB3
        rw [encI_nat]
        go_wp2
        refine bodyPost_ret (v := ptv r) (by rw [ptv_eq HR]; simp [results, Tryd.results81, go_sem] <;> rfl) rfl ⟨rfl, ?_⟩
        (repeat' (first | (with_reducible exact Below.refl _ _) | (with_reducible assumption) | (with_reducible refine below_later' ?_ ?_ _ _) | (with_reducible refine Below.alloc ?_ ?_ _) | (with_reducible refine Below.setCell ?_ ?_ _) | (with_reducible refine Below.drew ?_) | (with_reducible refine below_drewN ?_ _) | (with_reducible exact Nat.le_refl _) | omega | (simp; done) | (simp; omega)))
      · rw [if_neg h3] at hr
        have hn1 : 55296 ≤ n ∧ n < 56320 := by omega
        go_wp2
        go_loopw [7] (fun iv wr => ∃ (i d : Nat) (os : Array Obj), iv = .int .i64 i ∧ Hid (wr = later (w.alloc (.cells #[.string ⟨#[]⟩, .int .i64 0, .int .i64 0] 62)) d os) ∧ i ≤ 2 ∧ Hid (∀ j, j < i → p + 6 + j < l.length ∧ Qt.bt l (p + 6 + j) = if j = 0 then 92 else 117)) (fun iv _ => 2 - (intOf iv).toNat)
        case atStart => exact ⟨0, _, _, rfl, later_zero _, by omega, fun j h => by omega⟩
        case round =>
          obtain ⟨i, d, os, rfl, HW, hi, HS⟩ := hrel
          have HN1 := Lib.hid (And.intro hn1 (And.intro hlt hlt2))
          clear hn1 hlt hlt2 h2 h3
          by_cases hi2 : i < 2
          · have hw3 : IntKind.i64.wrap ((p : Int) + 6 + i) = (p : Int) + 6 + i := IntWalk.i64_in _ (by omega)
            by_cases hq : p + 6 + i < l.length
            · obtain ⟨b, hb⟩ : ∃ b, b = Qt.bt l (p + 6 + i) := ⟨_, rfl⟩
              have hix : nth l (p + 6 + i) = (b : Int) := by rw [hb]; rfl
              have hb256 := bt_lt l (p + 6 + i)
              rw [← hb] at hb256
              have e1 : ((p : Int) + 6 + i).toNat = p + 6 + i := by omega
              have e2 : 0 ≤ (p : Int) + 6 + i ∧ (p : Int) + 6 + i < l.length := by omega
              obtain ⟨s, hs⟩ : ∃ s : Nat, s = if i = 0 then 92 else 117 := ⟨_, rfl⟩
              have hsel : (#[Value.int .u8 92, Value.int .u8 117] : Array Value)[i]? = some (.int .u8 (s : Int)) := by
                have h01 : i = 0 ∨ i = 1 := by omega
                rcases h01 with rfl | rfl <;> rw [hs] <;> rfl
              have hsel2 : ([Value.int .u8 92, Value.int .u8 117][i]'(by simpa using hi2)) = Value.int .u8 (s : Int) := by
                have h01 : i = 0 ∨ i = 1 := by omega
                rcases h01 with rfl | rfl <;> rw [hs] <;> rfl
              have HS3 := Lib.hid hs
              have HB := Lib.hid hb
              have HR := Lib.hid hr
              have HU := Lib.hid hu
              have HV := Lib.hid hv
              clear hb hs hr hu hv
              go_upto_region 13 with (fail)
              go_big_region
              have hB0 : Hid (∃ d1 os1, wr.alloc (.cells #[Value.int .u8 92, Value.int .u8 117] 5) = later (w.alloc (.cells #[.string ⟨#[]⟩, .int .i64 0, .int .i64 0] 62)) d1 os1) := by
                rw [HW.out]
                exact later_of_below (by
                  refine Below.alloc (below_later _ _ _) ?_ _
                  simp)
              by_cases hbs : b = s
              · have HBS := Lib.hid hbs
                have hbsb : ((b : Int) != s) = false := by simp; omega
                go_wp2
                go_roundw
                case rel =>
                  obtain ⟨d1, os1, hW1⟩ := hB0.out
                  refine ⟨i + 1, d1 + 1, os1, by simp, ?_, by omega, ?_⟩
                  · unfold Hid; rw [hW1]; rfl
                  · intro j hj
                    rcases Nat.lt_or_ge j i with g | g
                    · exact HS.out j g
                    · obtain rfl : j = i := by omega
                      exact ⟨hq, by rw [← HB.out, HBS.out, HS3.out]⟩
                case measure => simp [intOf]; omega
              · have HBS := Lib.hid hbs
                have hbsb : ((b : Int) != s) = true := by simp; omega
                have HR3 : Hid (r = ⟨[], 0, 3⟩) := by
                  have h01 : i = 0 ∨ i = 1 := by omega
                  rcases h01 with rfl | rfl
                  · have e92 : s = 92 := by rw [HS3.out]; rfl
                    have hne92 : Qt.bt l (p + 6) ≠ 92 := fun e => HBS.out (by rw [HB.out, e92]; exact e)
                    unfold Hid
                    rw [HR.out, if_neg (by omega), if_pos hne92]; rfl
                  · have e117 : s = 117 := by rw [HS3.out]; rfl
                    have h0 := (HS.out 0 (by omega)).2
                    have hne117 : Qt.bt l (p + 6 + 1) ≠ 117 := fun e => HBS.out (by rw [HB.out, e117]; exact e)
                    unfold Hid
                    rw [HR.out, if_neg (by omega), if_neg (by simpa using h0), if_neg (by omega), if_pos hne117]; rfl
                obtain ⟨d1, os1, hW1⟩ := hB0.out
                rw [hW1]
                clear hB0 hW1 HW
                go_wp2
                refine bodyPost_ret (v := ptv r) (by rw [ptv_eq HR3]; simp [results, Tryd.results81, go_sem] <;> rfl) rfl ⟨rfl, ?_⟩
                (repeat' (first | (with_reducible exact Below.refl _ _) | (with_reducible assumption) | (with_reducible refine below_later' ?_ ?_ _ _) | (with_reducible refine Below.alloc ?_ ?_ _) | (with_reducible refine Below.setCell ?_ ?_ _) | (with_reducible refine Below.drew ?_) | (with_reducible refine below_drewN ?_ _) | (with_reducible exact Nat.le_refl _) | omega | (simp; done) | (simp; omega)))
            · have HR2 : Hid (r = ⟨[], 0, 2⟩) := by
                have h01 : i = 0 ∨ i = 1 := by omega
                rcases h01 with rfl | rfl
                · unfold Hid
                  rw [hr, if_pos (by omega)]; rfl
                · have h0 := (HS.out 0 (by omega)).2
                  have h0l := (HS.out 0 (by omega)).1
                  unfold Hid
                  rw [hr, if_neg (by omega), if_neg (by simpa using h0), if_pos (by omega)]; rfl
              clear hr hv hu
              obtain rfl := HW.out
              clear HW
              go_wp2
              refine bodyPost_ret (v := ptv r) (by rw [ptv_eq HR2]; simp [results, Tryd.results81, go_sem] <;> rfl) rfl ⟨rfl, ?_⟩
              (repeat' (first | (with_reducible exact Below.refl _ _) | (with_reducible assumption) | (with_reducible refine below_later' ?_ ?_ _ _) | (with_reducible refine Below.alloc ?_ ?_ _) | (with_reducible refine Below.setCell ?_ ?_ _) | (with_reducible refine Below.drew ?_) | (with_reducible refine below_drewN ?_ _) | (with_reducible exact Nat.le_refl _) | omega | (simp; done) | (simp; omega)))
          · obtain rfl : i = 2 := by omega
            have h0 := HS.out 0 (by omega)
            have h1' := HS.out 1 (by omega)
            rw [if_neg (by omega), if_neg (by simpa using h0.2), if_neg (by omega), if_neg (by simpa using h1'.2)] at hr
            clear h0 h1' HS
            obtain rfl := HW.out
            clear HW
            go_wp2_with fail
            refine (hv _).mono ?_
            rintro e' w3 ⟨rfl, rfl⟩
            by_cases g1 : f = 0
            · rw [if_neg (by simpa using g1)] at hr
              subst g1
              by_cases g2 : m < 56320 ∨ 57343 < m
              · rw [if_pos g2] at hr
                have HR := Lib.hid hr
                clear hr hv hu
                rcases g2 with g2 | g2
                · have gb : decide ((m : Int) < 56320) = true := by simp; omega
                  clear g2
                  go_wp2
                  refine bodyPost_ret (v := ptv r) (by rw [ptv_eq HR]; simp [results, Tryd.results81, go_sem] <;> rfl) rfl ⟨rfl, ?_⟩
                  (repeat' (first | (with_reducible exact Below.refl _ _) | (with_reducible assumption) | (with_reducible refine below_later' ?_ ?_ _ _) | (with_reducible refine Below.alloc ?_ ?_ _) | (with_reducible refine Below.setCell ?_ ?_ _) | (with_reducible refine Below.drew ?_) | (with_reducible refine below_drewN ?_ _) | (with_reducible exact Nat.le_refl _) | omega | (simp; done) | (simp; omega)))
                · have gb : decide ((m : Int) < 56320) = false := by simp; omega
                  have gc : decide ((57343 : Int) < m) = true := by simp; omega
                  clear g2
                  go_wp2
                  refine bodyPost_ret (v := ptv r) (by rw [ptv_eq HR]; simp [results, Tryd.results81, go_sem] <;> rfl) rfl ⟨rfl, ?_⟩
                  (repeat' (first | (with_reducible exact Below.refl _ _) | (with_reducible assumption) | (with_reducible refine below_later' ?_ ?_ _ _) | (with_reducible refine Below.alloc ?_ ?_ _) | (with_reducible refine Below.setCell ?_ ?_ _) | (with_reducible refine Below.drew ?_) | (with_reducible refine below_drewN ?_ _) | (with_reducible exact Nat.le_refl _) | omega | (simp; done) | (simp; omega)))
              · rw [if_neg g2] at hr
                have HR := Lib.hid hr
                clear hr hv hu
                have hm1 : 56320 ≤ m ∧ m ≤ 57343 := by omega
                obtain ⟨hn1, hlt, hlt2⟩ := HN1.out
                have gb : decide ((m : Int) < 56320) = false := by simp; omega
                have gc : decide ((57343 : Int) < m) = false := by simp; omega
                have x1 : IntKind.i64.wrap ((n : Int) - 55296) = (n : Int) - 55296 := IntWalk.i64_in _ (by omega)
                have x2 : IntKind.i64.wrap (((n : Int) - 55296) * 1024) = ((n : Int) - 55296) * 1024 := IntWalk.i64_in _ (by omega)
                have x3 : IntKind.i64.wrap (65536 + ((n : Int) - 55296) * 1024) = 65536 + ((n : Int) - 55296) * 1024 := IntWalk.i64_in _ (by omega)
                have x4 : IntKind.i64.wrap (65536 + ((n : Int) - 55296) * 1024 + m) = 65536 + ((n : Int) - 55296) * 1024 + m := IntWalk.i64_in _ (by omega)
                have x5 : IntKind.i64.wrap (65536 + ((n : Int) - 55296) * 1024 + m - 56320) = ((65536 + (n - 55296) * 1024 + m - 56320 : Nat) : Int) := by
                  rw [IntWalk.i64_in _ (by omega)]; omega
                obtain ⟨q, hq⟩ : ∃ q : Nat, q = 65536 + (n - 55296) * 1024 + m - 56320 := ⟨_, rfl⟩
                have HR2 : Hid (r = ⟨Utf.enc q, 12, 0⟩) := by rw [hq]; exact HR
                rw [← hq] at x5
                clear hq HR hm1 g2 hn1 hlt hlt2
                go_wp2_with fail
                all_goals
                refine (refput_any q _).mono ?_
                rintro e w3 ⟨rfl, hB3⟩
                obtain ⟨d3, os3, rfl⟩ := later_of_below hB3
                clear hB3
                rw [encI_nat]
                go_wp2
                refine bodyPost_ret (v := ptv r) (by rw [ptv_eq HR2]; simp [results, Tryd.results81, go_sem] <;> rfl) rfl ⟨rfl, ?_⟩
                (repeat' (first | (with_reducible exact Below.refl _ _) | (with_reducible assumption) | (with_reducible refine below_later' ?_ ?_ _ _) | (with_reducible refine Below.alloc ?_ ?_ _) | (with_reducible refine Below.setCell ?_ ?_ _) | (with_reducible refine Below.drew ?_) | (with_reducible refine below_drewN ?_ _) | (with_reducible exact Nat.le_refl _) | omega | (simp; done) | (simp; omega)))
            · rw [if_pos g1] at hr
              have HR := Lib.hid hr
              have g1b : ((f : Int) != 0) = true := by simp; omega
              clear hr hv hu
              go_wp2
              refine bodyPost_ret (v := ptv r) (by rw [ptv_eq HR]; simp [results, Tryd.results81, go_sem] <;> rfl) rfl ⟨rfl, ?_⟩
              (repeat' (first | (with_reducible exact Below.refl _ _) | (with_reducible assumption) | (with_reducible refine below_later' ?_ ?_ _ _) | (with_reducible refine Below.alloc ?_ ?_ _) | (with_reducible refine Below.setCell ?_ ?_ _) | (with_reducible refine Below.drew ?_) | (with_reducible refine below_drewN ?_ _) | (with_reducible exact Nat.le_refl _) | omega | (simp; done) | (simp; omega)))
  · rw [if_pos h1] at hr
    have HR := Lib.hid hr
    have h1b : ((e : Int) != 0) = true := by simp; omega
    clear hr hv
    go_wp2
    refine bodyPost_ret (v := ptv r) (by rw [ptv_eq HR]; simp [results, Tryd.results81, go_sem] <;> rfl) rfl ⟨rfl, ?_⟩
    (repeat' (first | (with_reducible exact Below.refl _ _) | (with_reducible assumption) | (with_reducible refine below_later' ?_ ?_ _ _) | (with_reducible refine Below.alloc ?_ ?_ _) | (with_reducible refine Below.setCell ?_ ?_ _) | (with_reducible refine Below.drew ?_) | (with_reducible refine below_drewN ?_ _) | (with_reducible exact Nat.le_refl _) | omega | (simp; done) | (simp; omega)))
end Go.Proofs.YthabfgpncebigaaDoor

/- tabulariumref07: part. -/
namespace Go.Proofs.YthabfgpncebigaaDoor
open Go.RowKit

theorem Qt.mean_cases {c : Nat} (h : Qt.mean c ≠ 0) : c = 34 ∨ c = 92 ∨ c = 47 ∨ c = 98 ∨ c = 102 ∨ c = 110 ∨ c = 114 ∨ c = 116 := by
  unfold Qt.mean at h
  repeat (split at h; · omega)
  omega

set_option maxHeartbeats 4000000 in
set_option maxRecDepth 1000000 in
theorem rqpart_esc (l : List UInt8) (p c : Nat) (w : World) (hp : p + 1 < l.length) (hl : l.length ≤ 1000000000) (h92 : Qt.bt l p = 92) (hc : c = Qt.bt l (p + 1)) (hm : Qt.mean c ≠ 0) :
    Calls Tryd.prog 56 #[.string (str l), .int .i64 p] w fun e w' => e = .returned (ptv ⟨[UInt8.ofNat (Qt.mean c)], 2, 0⟩) ∧ Below w.heap.size w w' := by
  have hix : nth l p = 92 := by show ((Qt.bt l p : Nat) : Int) = 92; rw [h92]; rfl
  have hix2 : nth l (p + 1) = (c : Int) := by rw [hc]; rfl
  have e1 : 0 ≤ (p : Int) ∧ (p : Int) < l.length := by omega
  have e2 : 0 ≤ (p : Int) + 1 ∧ (p : Int) + 1 < l.length := by omega
  have e3 : ((p : Int) + 1).toNat = p + 1 := by omega
  have d1 : decide (l.length ≤ p) = false := by simp; omega
  have d2 : decide ((l.length : Int) ≤ (p : Int) + 1) = false := by simp; omega
  have hw1 : IntKind.i64.wrap ((p : Int) + 1) = (p : Int) + 1 := IntWalk.i64_in _ (by omega)
  have hw2 : IntKind.i64.wrap ((p : Int) + 2) = (p : Int) + 2 := IntWalk.i64_in _ (by omega)
  have hsl : ∀ W : World, (Instr.slice 9 (.string (str l)) (some (.int .i64 ((p : Int) + 1))) (some (.int .i64 ((p : Int) + 2))) none).run Tryd.prog W = .ok (.string (str [UInt8.ofNat c])) W := fun W => by
    have h1 := run_slice_str W 9 l .i64 .i64 ((p : Int) + 1) ((p : Int) + 2) Tryd.underlying9 (by omega)
    rw [e3, show ((p : Int) + 2).toNat - (p + 1) = 1 by omega] at h1
    have h2 : (l.drop (p + 1)).take 1 = [UInt8.ofNat c] := by
      have h3 : UInt8.ofNat c = l[p + 1] := by rw [hc, ← Qt.bt_eq hp]; simp
      rw [List.drop_eq_getElem_cons hp, h3]; rfl
    rw [h2] at h1
    exact h1
  have HS := Lib.hid hsl
  clear h92 hc hsl
  go_enter Tryd.func56, Tryd.ntmps56
  rcases Qt.mean_cases hm with rfl | rfl | rfl | rfl | rfl | rfl | rfl | rfl
  all_goals
    clear hm
    have hsl := HS.out
    clear HS
    go_wp2
    refine bodyPost_ret (v := ptv ⟨[UInt8.ofNat (Qt.mean _)], 2, 0⟩) (by simp [results, Tryd.results56, go_sem] <;> rfl) rfl ⟨rfl, ?_⟩
    (repeat' (first | (with_reducible exact Below.refl _ _) | (with_reducible assumption) | (with_reducible refine below_later' ?_ ?_ _ _) | (with_reducible refine Below.alloc ?_ ?_ _) | (with_reducible refine Below.setCell ?_ ?_ _) | (with_reducible refine Below.drew ?_) | (with_reducible refine below_drewN ?_ _) | (with_reducible exact Nat.le_refl _) | omega | (simp; done) | (simp; omega)))

set_option maxHeartbeats 4000000 in
set_option maxRecDepth 1000000 in
theorem rqpart_plain (l : List UInt8) (p n c : Nat) (w : World) (hp : p < l.length) (hl : l.length ≤ 1000000000) (h32 : ¬ Qt.bt l p < 32) (h92 : Qt.bt l p ≠ 92) (hn : Utf.next (l.drop p) = (c, n)) (q : Qt.Pt)
    (hq : q = if n = 0 then Qt.err 7 else ⟨(l.drop p).take n, n, 0⟩) :
    Calls Tryd.prog 56 #[.string (str l), .int .i64 p] w fun e w' => e = .returned (ptv q) ∧ Below w.heap.size w w' := by
  have hcon := fun W => one_any l p W (by omega) (by omega)
  rw [hn] at hcon
  have hle := Utf.next_le (l := l.drop p)
  rw [hn, List.length_drop] at hle
  simp only at hcon hle
  obtain ⟨b, hb⟩ : ∃ b, b = Qt.bt l p := ⟨_, rfl⟩
  have hix : nth l p = (b : Int) := by rw [hb]; rfl
  have e1 : 0 ≤ (p : Int) ∧ (p : Int) < l.length := by omega
  have d1 : decide (l.length ≤ p) = false := by simp; omega
  have d3 : decide ((b : Int) < 32) = false := by simp; omega
  have d4 : ((b : Int) != 92) = true := by simp; omega
  have hw2 : IntKind.i64.wrap ((p : Int) + n) = (p : Int) + n := IntWalk.i64_in _ (by omega)
  have hsl : ∀ W : World, (Instr.slice 9 (.string (str l)) (some (.int .i64 (p : Int))) (some (.int .i64 ((p : Int) + n))) none).run Tryd.prog W = .ok (.string (str ((l.drop p).take n))) W := fun W => by
    have h1 := run_slice_str W 9 l .i64 .i64 (p : Int) ((p : Int) + n) Tryd.underlying9 (by omega)
    rw [Int.toNat_natCast, show ((p : Int) + n).toNat - p = n by omega] at h1
    exact h1
  have HQ := Lib.hid hq
  clear h92 h32 hn hb hq
  go_enter Tryd.func56, Tryd.ntmps56
  by_cases hz : n = 0
  · have HQ2 : Hid (q = ⟨[], 0, 7⟩) := by unfold Hid; rw [HQ.out, if_pos hz]; rfl
    subst hz
    clear HQ
    go_wp2_with fail
    refine (hcon _).mono ?_
    rintro e w2 ⟨rfl, hB⟩
    obtain ⟨d, os, rfl⟩ := later_of_below hB
    clear hB
    go_wp2
    refine bodyPost_ret (v := ptv q) (by rw [ptv_eq HQ2]; simp [results, Tryd.results56, go_sem] <;> rfl) rfl ⟨rfl, ?_⟩
    (repeat' (first | (with_reducible exact Below.refl _ _) | (with_reducible assumption) | (with_reducible refine below_later' ?_ ?_ _ _) | (with_reducible refine Below.alloc ?_ ?_ _) | (with_reducible refine Below.setCell ?_ ?_ _) | (with_reducible refine Below.drew ?_) | (with_reducible refine below_drewN ?_ _) | (with_reducible exact Nat.le_refl _) | omega | (simp; done) | (simp; omega)))
  · have HQ2 : Hid (q = ⟨(l.drop p).take n, n, 0⟩) := by unfold Hid; rw [HQ.out, if_neg hz]
    have hzb : ((n : Int) == 0) = false := by simp; omega
    clear HQ
    go_wp2_with fail
    refine (hcon _).mono ?_
    rintro e w2 ⟨rfl, hB⟩
    obtain ⟨d, os, rfl⟩ := later_of_below hB
    clear hB
    go_wp2
    refine bodyPost_ret (v := ptv q) (by rw [ptv_eq HQ2]; simp [results, Tryd.results56, go_sem] <;> rfl) rfl ⟨rfl, ?_⟩
    (repeat' (first | (with_reducible exact Below.refl _ _) | (with_reducible assumption) | (with_reducible refine below_later' ?_ ?_ _ _) | (with_reducible refine Below.alloc ?_ ?_ _) | (with_reducible refine Below.setCell ?_ ?_ _) | (with_reducible refine Below.drew ?_) | (with_reducible refine below_drewN ?_ _) | (with_reducible exact Nat.le_refl _) | omega | (simp; done) | (simp; omega)))

set_option maxHeartbeats 4000000 in
set_option maxRecDepth 1000000 in
theorem rqpart_rest (l : List UInt8) (p : Nat) (w : World) (hp : p ≤ l.length) (hl : l.length ≤ 1000000000) (e : Nat) (q : Qt.Pt) (hq : Hid (q = Qt.err e))
    (h : (e = 2 ∧ l.length ≤ p) ∨ (e = 3 ∧ p < l.length ∧ Qt.bt l p < 32) ∨ (e = 2 ∧ p < l.length ∧ Qt.bt l p = 92 ∧ l.length ≤ p + 1) ∨
      (e = 3 ∧ p + 1 < l.length ∧ Qt.bt l p = 92 ∧ Qt.mean (Qt.bt l (p + 1)) = 0 ∧ Qt.bt l (p + 1) ≠ 117)) :
    Calls Tryd.prog 56 #[.string (str l), .int .i64 p] w fun e w' => e = .returned (ptv q) ∧ Below w.heap.size w w' := by
  have HQ2 : Hid (q = ⟨[], 0, e⟩) := hq
  clear hq
  have hix : nth l p = (Qt.bt l p : Int) := rfl
  have hix2 : nth l (p + 1) = (Qt.bt l (p + 1) : Int) := rfl
  have hw1 : IntKind.i64.wrap ((p : Int) + 1) = (p : Int) + 1 := IntWalk.i64_in _ (by omega)
  have e3 : ((p : Int) + 1).toNat = p + 1 := by omega
  generalize Qt.bt l p = b at *
  generalize Qt.bt l (p + 1) = c at *
  go_enter Tryd.func56, Tryd.ntmps56
  rcases h with ⟨rfl, h1⟩ | ⟨rfl, h1, h2⟩ | ⟨rfl, h1, rfl, h3⟩ | ⟨rfl, h1, rfl, h3, h4⟩
  · have d1 : decide (l.length ≤ p) = true := decide_eq_true h1
    go_wp2
    refine bodyPost_ret (v := ptv q) (by rw [ptv_eq HQ2]; simp [results, Tryd.results56, go_sem] <;> rfl) rfl ⟨rfl, ?_⟩
    (repeat' (first | (with_reducible exact Below.refl _ _) | (with_reducible assumption) | (with_reducible refine below_later' ?_ ?_ _ _) | (with_reducible refine Below.alloc ?_ ?_ _) | (with_reducible refine Below.setCell ?_ ?_ _) | (with_reducible refine Below.drew ?_) | (with_reducible refine below_drewN ?_ _) | (with_reducible exact Nat.le_refl _) | omega | (simp; done) | (simp; omega)))
  · have d1 : decide (l.length ≤ p) = false := by simp; omega
    have e1 : 0 ≤ (p : Int) ∧ (p : Int) < l.length := by omega
    have d3 : decide ((b : Int) < 32) = true := by simp; omega
    clear h2
    go_wp2
    refine bodyPost_ret (v := ptv q) (by rw [ptv_eq HQ2]; simp [results, Tryd.results56, go_sem] <;> rfl) rfl ⟨rfl, ?_⟩
    (repeat' (first | (with_reducible exact Below.refl _ _) | (with_reducible assumption) | (with_reducible refine below_later' ?_ ?_ _ _) | (with_reducible refine Below.alloc ?_ ?_ _) | (with_reducible refine Below.setCell ?_ ?_ _) | (with_reducible refine Below.drew ?_) | (with_reducible refine below_drewN ?_ _) | (with_reducible exact Nat.le_refl _) | omega | (simp; done) | (simp; omega)))
  · have d1 : decide (l.length ≤ p) = false := by simp; omega
    have e1 : 0 ≤ (p : Int) ∧ (p : Int) < l.length := by omega
    have d2 : decide ((l.length : Int) ≤ (p : Int) + 1) = true := by simp; omega
    go_wp2
    refine bodyPost_ret (v := ptv q) (by rw [ptv_eq HQ2]; simp [results, Tryd.results56, go_sem] <;> rfl) rfl ⟨rfl, ?_⟩
    (repeat' (first | (with_reducible exact Below.refl _ _) | (with_reducible assumption) | (with_reducible refine below_later' ?_ ?_ _ _) | (with_reducible refine Below.alloc ?_ ?_ _) | (with_reducible refine Below.setCell ?_ ?_ _) | (with_reducible refine Below.drew ?_) | (with_reducible refine below_drewN ?_ _) | (with_reducible exact Nat.le_refl _) | omega | (simp; done) | (simp; omega)))
  · have d1 : decide (l.length ≤ p) = false := by simp; omega
    have e1 : 0 ≤ (p : Int) ∧ (p : Int) < l.length := by omega
    have e2 : 0 ≤ (p : Int) + 1 ∧ (p : Int) + 1 < l.length := by omega
    have d2 : decide ((l.length : Int) ≤ (p : Int) + 1) = false := by simp; omega
    have n1 : ((c : Int) == 34) = false := by simp; rintro h; rw [show c = 34 by omega] at h3; revert h3; decide
    have n2 : ((c : Int) == 92) = false := by simp; rintro h; rw [show c = 92 by omega] at h3; revert h3; decide
    have n3 : ((c : Int) == 47) = false := by simp; rintro h; rw [show c = 47 by omega] at h3; revert h3; decide
    have n4 : ((c : Int) == 98) = false := by simp; rintro h; rw [show c = 98 by omega] at h3; revert h3; decide
    have n5 : ((c : Int) == 102) = false := by simp; rintro h; rw [show c = 102 by omega] at h3; revert h3; decide
    have n6 : ((c : Int) == 110) = false := by simp; rintro h; rw [show c = 110 by omega] at h3; revert h3; decide
    have n7 : ((c : Int) == 114) = false := by simp; rintro h; rw [show c = 114 by omega] at h3; revert h3; decide
    have n8 : ((c : Int) == 116) = false := by simp; rintro h; rw [show c = 116 by omega] at h3; revert h3; decide
    have n9 : ((c : Int) == 117) = false := by simp; omega
    clear h3 h4
    go_wp2
    refine bodyPost_ret (v := ptv q) (by rw [ptv_eq HQ2]; simp [results, Tryd.results56, go_sem] <;> rfl) rfl ⟨rfl, ?_⟩
    (repeat' (first | (with_reducible exact Below.refl _ _) | (with_reducible assumption) | (with_reducible refine below_later' ?_ ?_ _ _) | (with_reducible refine Below.alloc ?_ ?_ _) | (with_reducible refine Below.setCell ?_ ?_ _) | (with_reducible refine Below.drew ?_) | (with_reducible refine below_drewN ?_ _) | (with_reducible exact Nat.le_refl _) | omega | (simp; done) | (simp; omega)))

set_option maxHeartbeats 4000000 in
set_option maxRecDepth 1000000 in
theorem rqpart_coded (l : List UInt8) (p : Nat) (w : World) (hp : p + 1 < l.length) (hl : l.length ≤ 1000000000) (h92 : Qt.bt l p = 92) (h117 : Qt.bt l (p + 1) = 117) :
    Calls Tryd.prog 56 #[.string (str l), .int .i64 p] w fun e w' => e = .returned (ptv (Qt.coded (l.drop (p + 2)))) ∧ Below w.heap.size w w' := by
  have hcon := fun W => rqcoded_any l p W (by omega) hl
  obtain ⟨s, n, e, hq⟩ : ∃ s n e, Qt.coded (l.drop (p + 2)) = ⟨s, n, e⟩ := ⟨_, _, _, rfl⟩
  rw [hq] at hcon ⊢
  unfold ptv at hcon
  simp only at hcon
  have hix : nth l p = 92 := by show ((Qt.bt l p : Nat) : Int) = 92; rw [h92]; rfl
  have hix2 : nth l (p + 1) = 117 := by show ((Qt.bt l (p + 1) : Nat) : Int) = 117; rw [h117]; rfl
  have hw1 : IntKind.i64.wrap ((p : Int) + 1) = (p : Int) + 1 := IntWalk.i64_in _ (by omega)
  have e3 : ((p : Int) + 1).toNat = p + 1 := by omega
  have d1 : decide (l.length ≤ p) = false := by simp; omega
  have e1 : 0 ≤ (p : Int) ∧ (p : Int) < l.length := by omega
  have e2 : 0 ≤ (p : Int) + 1 ∧ (p : Int) + 1 < l.length := by omega
  have d2 : decide ((l.length : Int) ≤ (p : Int) + 1) = false := by simp; omega
  clear hq h92 h117
  go_enter Tryd.func56, Tryd.ntmps56
  go_wp2_with fail
  refine (hcon _).mono ?_
  rintro e' w2 ⟨rfl, hB⟩
  obtain ⟨d, os, rfl⟩ := later_of_below hB
  clear hB
  go_wp2
  refine bodyPost_ret (v := ptv ⟨s, n, e⟩) (by unfold ptv; simp [results, Tryd.results56, go_sem] <;> rfl) rfl ⟨rfl, ?_⟩
  (repeat' (first | (with_reducible exact Below.refl _ _) | (with_reducible assumption) | (with_reducible refine below_later' ?_ ?_ _ _) | (with_reducible refine Below.alloc ?_ ?_ _) | (with_reducible refine Below.setCell ?_ ?_ _) | (with_reducible refine Below.drew ?_) | (with_reducible refine below_drewN ?_ _) | (with_reducible exact Nat.le_refl _) | omega | (simp; done) | (simp; omega)))

theorem rqpart_any (l : List UInt8) (p : Nat) (w : World) (hp : p ≤ l.length) (hl : l.length ≤ 1000000000) :
    Calls Tryd.prog 56 #[.string (str l), .int .i64 p] w fun e w' => e = .returned (ptv (Qt.part (l.drop p))) ∧ Below w.heap.size w w' := by
  have hpt := Qt.part_at l p
  by_cases h1 : l.length ≤ p
  · rw [if_pos h1] at hpt
    exact rqpart_rest l p w hp hl 2 _ hpt (.inl ⟨rfl, h1⟩)
  · rw [if_neg h1] at hpt
    by_cases h2 : Qt.bt l p < 32
    · rw [if_pos h2] at hpt
      exact rqpart_rest l p w hp hl 3 _ hpt (.inr (.inl ⟨rfl, by omega, h2⟩))
    · rw [if_neg h2] at hpt
      by_cases h3 : Qt.bt l p ≠ 92
      · rw [if_pos h3] at hpt
        obtain ⟨c, n, hn⟩ : ∃ c n, Utf.next (l.drop p) = (c, n) := ⟨_, _, rfl⟩
        rw [hn] at hpt
        exact rqpart_plain l p n c w (by omega) hl h2 h3 hn _ hpt
      · rw [if_neg h3, Qt.esc_at] at hpt
        have h3' : Qt.bt l p = 92 := by omega
        by_cases h4 : l.length ≤ p + 1
        · rw [if_pos h4] at hpt
          exact rqpart_rest l p w hp hl 2 _ hpt (.inr (.inr (.inl ⟨rfl, by omega, h3', h4⟩)))
        · rw [if_neg h4] at hpt
          by_cases h5 : Qt.mean (Qt.bt l (p + 1)) ≠ 0
          · rw [if_pos h5] at hpt
            rw [hpt]
            exact rqpart_esc l p _ w (by omega) hl h3' rfl h5
          · rw [if_neg h5] at hpt
            by_cases h6 : Qt.bt l (p + 1) = 117
            · rw [if_pos h6] at hpt
              rw [hpt]
              exact rqpart_coded l p w (by omega) hl h3' h6
            · rw [if_neg h6] at hpt
              exact rqpart_rest l p w hp hl 3 _ hpt (.inr (.inr (.inr ⟨rfl, by omega, h3', by omega, h6⟩)))
end Go.Proofs.YthabfgpncebigaaDoor

/- tabulariumref07: Scan. -/
namespace Go.Proofs.YthabfgpncebigaaDoor
open Go.RowKit

set_option maxHeartbeats 4000000 in
set_option maxRecDepth 1000000 in
theorem rqscan_any (l : List UInt8) (w : World) (hl : l.length ≤ 1000000) :
    Calls Tryd.prog 36 #[.string (str l)] w fun e w' => e = .returned (ptv (Qt.scan l)) ∧ Below w.heap.size w w' := by
  obtain ⟨r, hr⟩ : ∃ r, r = Qt.scan l := ⟨_, rfl⟩
  rw [← hr]
  by_cases h0 : l.length = 0
  · obtain rfl := List.eq_nil_of_length_eq_zero h0
    have HR : Hid (r = ⟨[], 0, 2⟩) := hr
    clear hr h0
    go_enter Tryd.func36, Tryd.ntmps36
    go_wp2
    refine bodyPost_ret (v := ptv r) (by rw [ptv_eq HR]; simp [results, Tryd.results36, go_sem] <;> rfl) rfl ⟨rfl, ?_⟩
    (repeat' (first | (with_reducible exact Below.refl _ _) | (with_reducible assumption) | (with_reducible refine below_later' ?_ ?_ _ _) | (with_reducible refine Below.alloc ?_ ?_ _) | (with_reducible refine Below.setCell ?_ ?_ _) | (with_reducible refine Below.drew ?_) | (with_reducible refine below_drewN ?_ _) | (with_reducible exact Nat.le_refl _) | omega | (simp; done) | (simp; omega)))
  · have h0b : ((l.length : Int) == 0) = false := beq_eq_false_iff_ne.2 (by omega)
    have e1 : (0 : Int) ≤ 0 ∧ (0 : Int) < l.length := by omega
    have hix : nth l 0 = (Qt.bt l 0 : Int) := rfl
    by_cases h34 : Qt.bt l 0 = 34
    · have HR0 : Hid (r = Qt.go (l.drop 1) [] 1) := by
        unfold Hid
        rw [hr]
        cases l with
        | nil => exact absurd rfl h0
        | cons c t => rw [Qt.scan_cons, if_neg (by rw [show c.toNat = 34 from h34]; decide)]; rfl
      rw [h34] at hix
      have hix' : nth l 0 = 34 := hix
      clear hr h34 hix
      go_enter Tryd.func36, Tryd.ntmps36
      go_wp2
      go_loopw [3, 4] (fun sv iv wr => ∃ (s : List UInt8) (i d : Nat) (os : Array Obj), sv = .string (str s) ∧ iv = .int .i64 i ∧ Hid (wr = later (w.alloc (.cells #[.string ⟨#[]⟩, .int .i64 0, .int .i64 0] 62)) d os) ∧ i ≤ l.length ∧ s.length ≤ 4 * i ∧ Hid (r = Qt.go (l.drop i) s i)) (fun _ iv _ => l.length - (intOf iv).toNat)
      case atStart => exact ⟨[], 1, _, _, rfl, rfl, later_zero _, by omega, by simp, HR0.out⟩
      case round =>
        obtain ⟨s, i, d, os, rfl, rfl, HW, hi, hsl, HR⟩ := hrel
        clear HR0 hix'
        have hcon := fun W => rqpart_any l i W hi (by omega)
        have hw1 : IntKind.i64.wrap ((i : Int) + 1) = (i : Int) + 1 := IntWalk.i64_in _ (by omega)
        by_cases hlt : i < l.length ∧ Qt.bt l i = 34
        · have HR2 : Hid (r = ⟨s, i + 1, 0⟩) := by
            unfold Hid
            rw [HR.out, Qt.go_quote]
            rw [Qt.quote_at]; simp [hlt.1, hlt.2]
          have hix : nth l i = 34 := by show ((Qt.bt l i : Nat) : Int) = 34; rw [hlt.2]; rfl
          have e2 : 0 ≤ (i : Int) ∧ (i : Int) < l.length := by omega
          have d1 : decide (i < l.length) = true := decide_eq_true hlt.1
          clear hlt hcon HR
          obtain rfl := HW.out
          clear HW
          have e6 : ((i + 1 : Nat) : Int) = (i : Int) + 1 := by omega
          have hpv : ptv r = .agg #[.string (str s), .int .i64 ((i : Int) + 1), .int .i64 0] := by rw [ptv_eq HR2, e6]; rfl
          have HPV := Lib.hid hpv
          clear hpv e6 HR2
          go_wp2
          refine bodyPost_ret (v := ptv r) (by rw [HPV.out]; simp [results, Tryd.results36, go_sem] <;> rfl) rfl ⟨rfl, ?_⟩
          (repeat' (first | (with_reducible exact Below.refl _ _) | (with_reducible assumption) | (with_reducible refine below_later' ?_ ?_ _ _) | (with_reducible refine Below.alloc ?_ ?_ _) | (with_reducible refine Below.setCell ?_ ?_ _) | (with_reducible refine Below.drew ?_) | (with_reducible refine below_drewN ?_ _) | (with_reducible exact Nat.le_refl _) | omega | (simp; done) | (simp; omega)))
        · have hqh : Qt.quoteHead (l.drop i) = false := by
            rw [Qt.quote_at]
            cases h1 : decide (i < l.length)
            · rfl
            · simp only [Bool.true_and]
              exact decide_eq_false (fun h => hlt ⟨of_decide_eq_true h1, h⟩)
          have hgo := HR.out
          have hpl := Qt.part_len (l := l.drop i)
          have hpo := Qt.part_ok (l := l.drop i)
          have hge := Qt.go_err (l := l.drop i) s i hqh
          have hgp := Qt.go_part (l := l.drop i) s i hqh
          rw [← hgo, List.drop_drop] at hgp
          rw [← hgo] at hge
          rw [List.length_drop] at hpo
          obtain ⟨ps, n, e, hq⟩ : ∃ s n e, Qt.part (l.drop i) = ⟨s, n, e⟩ := ⟨_, _, _, rfl⟩
          rw [hq] at hcon hpl hpo hge hgp
          unfold ptv at hcon
          simp only at hcon hpl hpo hge hgp
          have HX := Lib.hid (And.intro hge hgp)
          have HY := Lib.hid (And.intro hpl hpo)
          clear hq hgo hge hgp hpl hpo HR hqh
          have hcase : Hid ((decide (i < l.length) = false) ∨ (decide (i < l.length) = true ∧ (0 ≤ (i : Int) ∧ (i : Int) < l.length) ∧ ((nth l i) == 34) = false)) := by
            by_cases h1 : i < l.length
            · refine .inr ⟨decide_eq_true h1, by omega, ?_⟩
              have h2 : Qt.bt l i ≠ 34 := fun h => hlt ⟨h1, h⟩
              have h3 : nth l i = (Qt.bt l i : Int) := rfl
              rw [h3]; simp; omega
            · exact .inl (decide_eq_false h1)
          clear hlt
          obtain rfl := HW.out
          clear HW
          rcases hcase.out with d1 | ⟨d1, e2, d2⟩
          all_goals
            clear hcase
            by_cases he : e = 0
            · have hgp := HX.out.2 he
              obtain ⟨hpl, hpo⟩ := HY.out
              have hpl := hpl he
              have hpo := hpo he
              have hw2 : IntKind.i64.wrap ((i : Int) + n) = (i : Int) + n := IntWalk.i64_in _ (by omega)
              have ha : ∀ W : World, (Op.stringOp .add (str s) (str ps)).run Tryd.prog W = .ok (.string (str (s ++ ps))) W := fun W => run_add_str W s ps (by omega)
              have HG := Lib.hid hgp
              subst he
              clear HX HY hgp
              go_wp2_with fail
              refine (hcon _).mono ?_
              rintro e' w2 ⟨rfl, hB⟩
              obtain ⟨d3, os3, rfl⟩ := later_of_below hB
              clear hB
              go_wp2
              go_roundw
              case rel =>
                obtain ⟨d4, os4, h4⟩ := later_of_below (w := w.alloc (.cells #[.string ⟨#[]⟩, .int .i64 0, .int .i64 0] 62)) (w' := (later (later (w.alloc (.cells #[.string ⟨#[]⟩, .int .i64 0, .int .i64 0] 62)) d os) d3 os3).alloc (.cells #[.string (str ps), .int .i64 n, .int .i64 0] 62)) (by (repeat' (first | (with_reducible exact Below.refl _ _) | (with_reducible assumption) | (with_reducible refine below_later' ?_ ?_ _ _) | (with_reducible refine Below.alloc ?_ ?_ _) | (with_reducible refine Below.setCell ?_ ?_ _) | (with_reducible refine Below.drew ?_) | (with_reducible refine below_drewN ?_ _) | (with_reducible exact Nat.le_refl _) | omega | (simp; done) | (simp; omega))))
                exact ⟨s ++ ps, i + n, d4, os4, rfl, by simp, h4, by omega, by rw [List.length_append]; omega, HG.out⟩
              case measure => simp [intOf]; omega
            · have HR2 : Hid (r = ⟨[], 0, e⟩) := HX.out.1 he
              have heb : ((e : Int) != 0) = true := by simp; omega
              clear HX HY
              go_wp2_with fail
              refine (hcon _).mono ?_
              rintro e' w2 ⟨rfl, hB⟩
              obtain ⟨d3, os3, rfl⟩ := later_of_below hB
              clear hB
              go_wp2
              refine bodyPost_ret (v := ptv r) (by rw [ptv_eq HR2]; simp [results, Tryd.results36, go_sem] <;> rfl) rfl ⟨rfl, ?_⟩
              (repeat' (first | (with_reducible exact Below.refl _ _) | (with_reducible assumption) | (with_reducible refine below_later' ?_ ?_ _ _) | (with_reducible refine Below.alloc ?_ ?_ _) | (with_reducible refine Below.setCell ?_ ?_ _) | (with_reducible refine Below.drew ?_) | (with_reducible refine below_drewN ?_ _) | (with_reducible exact Nat.le_refl _) | omega | (simp; done) | (simp; omega)))
    · have HR : Hid (r = ⟨[], 0, 3⟩) := by
        unfold Hid
        rw [hr]
        cases l with
        | nil => exact absurd rfl h0
        | cons c t => rw [Qt.scan_cons, if_pos (show c.toNat ≠ 34 from h34)]; rfl
      have hnb : ((Qt.bt l 0 : Int) != 34) = true := by simp; omega
      clear hr h34
      go_enter Tryd.func36, Tryd.ntmps36
      go_wp2
      refine bodyPost_ret (v := ptv r) (by rw [ptv_eq HR]; simp [results, Tryd.results36, go_sem] <;> rfl) rfl ⟨rfl, ?_⟩
      (repeat' (first | (with_reducible exact Below.refl _ _) | (with_reducible assumption) | (with_reducible refine below_later' ?_ ?_ _ _) | (with_reducible refine Below.alloc ?_ ?_ _) | (with_reducible refine Below.setCell ?_ ?_ _) | (with_reducible refine Below.drew ?_) | (with_reducible refine below_drewN ?_ _) | (with_reducible exact Nat.le_refl _) | omega | (simp; done) | (simp; omega)))
end Go.Proofs.YthabfgpncebigaaDoor
