/- tabulariumref07: short, digit, Print. -/
import Derived.Test.YtpoameaaoapiiaaDoorQr
import Derived.Test.YtpoameaaoapiiaaDoorQq
import Derived.Test.YtpoameaaoapiiaaDoorGrow
import Derived.Deep.RegionHeld3
import Derived.Sort.AtCall
namespace Go.Proofs.YtpoameaaoapiiaaDoor
open Go.RowKit

/-- The sign as a text. -/
def shortL (c : Nat) : List UInt8 := if Qt.shortc c ≠ 0 then [UInt8.ofNat (Qt.shortc c)] else []
set_option maxHeartbeats 1000000 in
set_option maxRecDepth 100000 in
theorem short_any (c : Nat) (w : World) : Calls Tryd.prog 27 #[.int .u8 c] w fun e w' => e = .returned (.string (str (shortL c))) ∧ w = w' := by
  by_cases h : Qt.shortc c ≠ 0
  · go_enter Tryd.func27, Tryd.ntmps27
    rcases Qt.shortc_cases h with rfl | rfl | rfl | rfl | rfl | rfl | rfl
    all_goals
      clear h
      go_wp2
      go_ret
      exact ⟨rfl, rfl⟩
  · have e : shortL c = [] := by unfold shortL; rw [if_neg h]
    rw [e]
    have h0 : Qt.shortc c = 0 := Decidable.byContradiction h
    have n1 : ((c : Int) == 34) = false := by simp; rintro h; rw [show c = 34 by omega] at h0; revert h0; decide
    have n2 : ((c : Int) == 92) = false := by simp; rintro h; rw [show c = 92 by omega] at h0; revert h0; decide
    have n3 : ((c : Int) == 8) = false := by simp; rintro h; rw [show c = 8 by omega] at h0; revert h0; decide
    have n4 : ((c : Int) == 12) = false := by simp; rintro h; rw [show c = 12 by omega] at h0; revert h0; decide
    have n5 : ((c : Int) == 10) = false := by simp; rintro h; rw [show c = 10 by omega] at h0; revert h0; decide
    have n6 : ((c : Int) == 13) = false := by simp; rintro h; rw [show c = 13 by omega] at h0; revert h0; decide
    have n7 : ((c : Int) == 9) = false := by simp; rintro h; rw [show c = 9 by omega] at h0; revert h0; decide
    clear h h0 e
    go_enter Tryd.func27, Tryd.ntmps27
    go_wp2
    go_ret
    exact ⟨rfl, rfl⟩
set_option maxHeartbeats 1000000 in
set_option maxRecDepth 100000 in
theorem digit_any (n : Nat) (w : World) (hn : n < 16) : Calls Tryd.prog 28 #[.int .i64 n] w fun e w' => e = .returned (.string (str [UInt8.ofNat (Qt.hexd n)])) ∧ Below w.heap.size w w' := by
  have hb : ∀ c : Nat, c < 256 → ∀ W : World, (convert 41 9 (.slice (some ⟨W.heap.size, 0, none⟩) 1 1)).run Tryd.prog (W.alloc (.cells #[.int .u8 c] 5)) = .ok (.string (str [UInt8.ofNat c])) (W.alloc (.cells #[.int .u8 c] 5)) := fun c hc W => by
    refine run_convert_bs (P := Tryd.prog) _ 41 9 5 Tryd.underlying41 Tryd.underlying5 Tryd.underlying9 ?_
    have h1 := Rd.new1 W 5 (.int .u8 c)
    have e : [Value.int .u8 c] = bval [UInt8.ofNat c] := by
      simp [bval]; omega
    unfold Bs
    rw [← e]
    exact h1
  by_cases h : n < 10
  · have e : Qt.hexd n = 48 + n := by unfold Qt.hexd; rw [if_pos h]
    rw [e]
    have hw1 : IntKind.i64.wrap (48 + (n : Int)) = 48 + (n : Int) := IntWalk.i64_in _ (by omega)
    have hw2 : IntKind.u8.wrap (48 + (n : Int)) = 48 + (n : Int) := IntWalk.u8_in _ (by omega)
    have hc := hb (48 + n) (by omega) w
    rw [show ((48 + n : Nat) : Int) = 48 + (n : Int) by omega] at hc
    have hd : decide ((n : Int) < 10) = true := by simp; omega
    generalize UInt8.ofNat (48 + n) = v at *
    clear hb e
    go_enter Tryd.func28, Tryd.ntmps28
    go_wp2
    go_ret
    exact ⟨rfl, (Below.refl _ w).alloc (Nat.le_refl _) _⟩
  · have e : Qt.hexd n = 87 + n := by unfold Qt.hexd; rw [if_neg h]
    rw [e]
    have hw1 : IntKind.i64.wrap (97 + (n : Int)) = 97 + (n : Int) := IntWalk.i64_in _ (by omega)
    have hw3 : IntKind.i64.wrap (97 + (n : Int) - 10) = 87 + (n : Int) := by rw [IntWalk.i64_in _ (by omega)]; omega
    have hw2 : IntKind.u8.wrap (87 + (n : Int)) = 87 + (n : Int) := IntWalk.u8_in _ (by omega)
    have hw4 : IntKind.u8.wrap (97 + (n : Int) - 10) = 87 + (n : Int) := by rw [IntWalk.u8_in _ (by omega)]; omega
    have hc := hb (87 + n) (by omega) w
    rw [show ((87 + n : Nat) : Int) = 87 + (n : Int) by omega] at hc
    have hd : decide ((n : Int) < 10) = false := by simp; omega
    generalize UInt8.ofNat (87 + n) = v at *
    clear hb e
    go_enter Tryd.func28, Tryd.ntmps28
    go_wp2
    go_ret
    exact ⟨rfl, (Below.refl _ w).alloc (Nat.le_refl _) _⟩

theorem pp_short {c : UInt8} (h : Qt.shortc c.toNat ≠ 0) : Qt.pp c = [92] ++ shortL c.toNat := by unfold Qt.pp shortL; rw [if_pos h, if_pos h]; rfl
set_option maxHeartbeats 4000000 in
set_option maxRecDepth 1000000 in
theorem rqprint_any (l : List UInt8) (w : World) (hl : l.length ≤ 1000000) :
    Calls Tryd.prog 14 #[.string (str l)] w fun e w' => e = .returned (.string (str (Qt.print l))) ∧ Below w.heap.size w w' := by
  have e0 : str [34] = ⟨#[34]⟩ := rfl
  go_enter Tryd.func14, Tryd.ntmps14
  go_wp2
  go_loopw [3, 4] (fun sv iv wr => ∃ (i : Nat) (s : List UInt8), sv = .string (str s) ∧ iv = .int .i64 i ∧ i ≤ l.length ∧ s.length ≤ 6 * i + 1 ∧ Hid (s = 34 :: Qt.pps (l.take i)) ∧ Below w.heap.size w wr) (fun _ iv _ => l.length - (intOf iv).toNat)
  case atStart => exact ⟨0, [34], rfl, rfl, by omega, by simp, rfl, Below.refl _ _⟩
  case round =>
    obtain ⟨i, s, rfl, rfl, hi, hsl, HS, hB⟩ := hrel
    by_cases hlt : i < l.length
    · have hnx := Qt.pps_next l i hlt
      obtain ⟨c, hc⟩ : ∃ c : UInt8, c = UInt8.ofNat (Qt.bt l i) := ⟨_, rfl⟩
      have hcn : c.toNat = Qt.bt l i := by rw [hc, ← Qt.bt_eq hlt]; simp
      have hix : nth l i = (c.toNat : Int) := by rw [hcn]; rfl
      have e1 : 0 ≤ (i : Int) ∧ (i : Int) < l.length := by omega
      have hw1 : IntKind.i64.wrap ((i : Int) + 1) = (i : Int) + 1 := IntWalk.i64_in _ (by omega)
      rw [← hc] at hnx
      have hs2 : s ++ Qt.pp c = 34 :: Qt.pps (l.take (i + 1)) := by rw [HS.out, hnx]; rfl
      have hpl := Qt.pp_len c
      have HS2 := Lib.hid hs2
      have HC := Lib.hid hc
      have c256 := c.toNat_lt
      have hcn2 := hcn
      clear hnx hs2 HS hc hcn
      by_cases h1 : Qt.shortc c.toNat ≠ 0
      · obtain ⟨d, hd⟩ : ∃ d : UInt8, d = UInt8.ofNat (Qt.shortc c.toNat) := ⟨_, rfl⟩
        have hsh := fun W => short_any c.toNat W
        have hsl1 : shortL c.toNat = [d] := by unfold shortL; rw [if_pos h1, hd]
        have hpp : Qt.pp c = [92, d] := by unfold Qt.pp; rw [if_pos h1, hd]
        rw [hsl1] at hsh
        rw [hpp] at HS2 hpl
        have ha1 : ∀ W : World, (Op.stringOp .add (str s) (ByteArray.mk #[92])).run Tryd.prog W = .ok (.string (str (s ++ [92]))) W := fun W => run_add_str W s [92] (by simp; omega)
        have ha2 : ∀ W : World, (Op.stringOp .add (str (s ++ [92])) (str [d])).run Tryd.prog W = .ok (.string (str (s ++ [92, d]))) W := fun W => by
          have := run_add_str (P := Tryd.prog) W (s ++ [92]) [d] (by simp; omega)
          rwa [List.append_assoc] at this
        clear hsl1 hpp hd h1 hcn2
        go_wp2_with (first | (go_at_call 27; refine (hsh _).mono ?_; rintro e w2 ⟨rfl, rfl⟩))
        go_roundw
        case rel => exact ⟨i + 1, s ++ [92, d], rfl, by simp, by omega, by simp; omega, HS2, hB⟩
        case measure => simp [intOf]; omega
      · have hsh := fun W => short_any c.toNat W
        have hsl1 : shortL c.toNat = [] := by unfold shortL; rw [if_neg h1]
        rw [hsl1] at hsh
        by_cases h2 : c.toNat < 32
        · have hpp : Qt.pp c = [92, 117, 48, 48, UInt8.ofNat (Qt.hexd (c.toNat / 16)), UInt8.ofNat (Qt.hexd (c.toNat % 16))] := by unfold Qt.pp; rw [if_neg h1, if_pos h2]
          rw [hpp] at HS2 hpl
          clear hsl1 hpp h1 hcn2 HC
          generalize c.toNat = n at *
          have hdc : decide ((n : Int) < 32) = true := by simp; omega
          go_wp2_with (first | (go_at_call 27; refine (hsh _).mono ?_; rintro e w2 ⟨rfl, rfl⟩))
          obtain ⟨x, hx⟩ : ∃ x, x = n / 16 := ⟨_, rfl⟩
          obtain ⟨y, hy⟩ : ∃ y, y = n % 16 := ⟨_, rfl⟩
          have t1 : (n : Int).tdiv 16 = (x : Int) := by rw [Int.tdiv_eq_ediv_of_nonneg (by omega), hx]; rfl
          have t2 : (n : Int).tmod 16 = (y : Int) := by rw [Int.tmod_eq_emod_of_nonneg (by omega), hy]; rfl
          have t3 : (n : Int) / 16 = (x : Int) := by rw [hx]; rfl
          have t4 : (n : Int) % 16 = (y : Int) := by rw [hy]; rfl
          have x16 : x < 16 := by omega
          have y16 : y < 16 := by omega
          rw [← hx, ← hy] at HS2
          have t5 : IntKind.u8.wrap (x : Int) = (x : Int) := IntWalk.u8_in _ (by omega)
          have t6 : IntKind.u8.wrap (y : Int) = (y : Int) := IntWalk.u8_in _ (by omega)
          have t7 : IntKind.i64.wrap (x : Int) = (x : Int) := IntWalk.i64_in _ (by omega)
          have t8 : IntKind.i64.wrap (y : Int) = (y : Int) := IntWalk.i64_in _ (by omega)
          have dx := fun W => digit_any x W x16
          have dy := fun W => digit_any y W y16
          generalize UInt8.ofNat (Qt.hexd x) = cx at *
          generalize UInt8.ofNat (Qt.hexd y) = cy at *
          have ha1 : ∀ W : World, (Op.stringOp .add (str s) (ByteArray.mk #[92, 117, 48, 48])).run Tryd.prog W = .ok (.string (str (s ++ [92, 117, 48, 48]))) W := fun W => run_add_str W s [92, 117, 48, 48] (by simp; omega)
          have ha2 : ∀ W : World, (Op.stringOp .add (str (s ++ [92, 117, 48, 48])) (str [cx])).run Tryd.prog W = .ok (.string (str (s ++ [92, 117, 48, 48, cx]))) W := fun W => by
            have := run_add_str (P := Tryd.prog) W (s ++ [92, 117, 48, 48]) [cx] (by simp; omega)
            rwa [List.append_assoc] at this
          have ha3 : ∀ W : World, (Op.stringOp .add (str (s ++ [92, 117, 48, 48, cx])) (str [cy])).run Tryd.prog W = .ok (.string (str (s ++ [92, 117, 48, 48, cx, cy]))) W := fun W => by
            have := run_add_str (P := Tryd.prog) W (s ++ [92, 117, 48, 48, cx]) [cy] (by simp; omega)
            rwa [List.append_assoc] at this
          clear hx hy hpl hsh
          go_region_held3 (fun w' => Below w.heap.size w w')
            (first
              | assumption
              | exact hB.drew
              | exact Below.trans (by assumption) (hb5.mono (Below.size (by assumption)))
              | exact Below.trans (by assumption) (hb6.mono (Below.size (by assumption)))
              | exact below_drewN (by assumption) _)
            (first
              | (go_at_call_has 28 (Value.int IntKind.i64 (x : Int))
                 refine (dx _).mono ?_
                 rintro e w5 ⟨rfl, hb5⟩)
              | (go_at_call_has 28 (Value.int IntKind.i64 (y : Int))
                 refine (dy _).mono ?_
                 rintro e w6 ⟨rfl, hb6⟩))
          all_goals
            have hBe : Below w.heap.size w w6 := by assumption
            clear hb5 hb6
            go_wp2
            go_roundw
            case rel => exact ⟨i + 1, s ++ [92, 117, 48, 48, cx, cy], rfl, by simp, by omega, by simp; omega, HS2, hBe⟩
            case measure => simp [intOf]; omega
        · have hpp : Qt.pp c = [c] := by unfold Qt.pp; rw [if_neg h1, if_neg h2]
          rw [hpp] at HS2 hpl
          have hdc : decide ((c.toNat : Int) < 32) = false := by simp; omega
          have hsl : ∀ W : World, (Instr.slice 9 (.string (str l)) (some (.int .i64 (i : Int))) (some (.int .i64 ((i : Int) + 1))) none).run Tryd.prog W = .ok (.string (str [c])) W := fun W => by
            have h1 := run_slice_str W 9 l .i64 .i64 (i : Int) ((i : Int) + 1) Tryd.underlying9 (by omega)
            have h3 : (l.drop i).take 1 = [c] := by
              have h4 : c = l[i] := by rw [HC.out, ← Qt.bt_eq hlt]; simp
              rw [List.drop_eq_getElem_cons hlt, h4]; rfl
            rw [Int.toNat_natCast, show ((i : Int) + 1).toNat - i = 1 by omega, h3] at h1
            exact h1
          have ha1 : ∀ W : World, (Op.stringOp .add (str s) (str [c])).run Tryd.prog W = .ok (.string (str (s ++ [c]))) W := fun W => run_add_str W s [c] (by simp; omega)
          clear hsl1 hpp h1 h2 hcn2 HC
          go_wp2_with (first | (go_at_call 27; refine (hsh _).mono ?_; rintro e w2 ⟨rfl, rfl⟩))
          go_roundw
          case rel => exact ⟨i + 1, s ++ [c], rfl, by simp, by omega, by simp; omega, HS2, hB⟩
          case measure => simp [intOf]; omega
    · obtain rfl : i = l.length := by omega
      have ha1 : ∀ W : World, (Op.stringOp .add (str s) (ByteArray.mk #[34])).run Tryd.prog W = .ok (.string (str (s ++ [34]))) W := fun W => run_add_str W s [34] (by simp; omega)
      have HP : Hid (s ++ [34] = Qt.print l) := by
        unfold Hid Qt.print
        rw [HS.out, List.take_of_length_le (Nat.le_refl _)]; rfl
      clear HS
      go_wp2
      go_ret
      exact ⟨by rw [← HP.out]; rfl, hB⟩
end Go.Proofs.YtpoameaaoapiiaaDoor
