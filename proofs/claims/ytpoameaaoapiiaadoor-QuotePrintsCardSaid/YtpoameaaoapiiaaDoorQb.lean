/- quote: unit. -/
import Derived.Test.YtpoameaaoapiiaaDoorQa
import Derived.Test.YtpoameaaoapiiaaDoorUw2
import Derived.Test.YtpoameaaoapiiaaDoorShelf
namespace Go.Proofs.YtpoameaaoapiiaaDoor
open Go.RowKit

/-- Where a digit stands among the digits; -1: nowhere. -/
def idxD (c : Nat) : Int := if 48 ≤ c ∧ c ≤ 57 then (c : Int) - 48 else if 97 ≤ c ∧ c ≤ 102 then (c : Int) - 87 else -1
/-- A capital's small letter, of A to F. -/
def lowr (c : Nat) : Nat := if 65 ≤ c ∧ c ≤ 70 then c + 32 else c
theorem idxD_lowr (c : Nat) : idxD (lowr c) = Qt.hexI c := by
  unfold idxD lowr
  by_cases h1 : 65 ≤ c ∧ c ≤ 70
  · have e : Qt.hexv c = c - 55 := by unfold Qt.hexv; rw [if_neg (by omega), if_neg (by omega), if_pos h1]
    unfold Qt.hexI
    rw [if_pos h1, if_neg (by omega), if_pos (by omega), e, if_neg (by omega)]; omega
  · unfold Qt.hexI Qt.hexv
    rw [if_neg h1]
    by_cases h2 : 48 ≤ c ∧ c ≤ 57
    · rw [if_pos h2, if_pos h2, if_neg (by omega)]; omega
    · rw [if_neg h2, if_neg h2]
      by_cases h3 : 97 ≤ c ∧ c ≤ 102
      · rw [if_pos h3, if_pos h3, if_neg (by omega)]; omega
      · rw [if_neg h3, if_neg h3, if_neg h1, if_pos rfl]
theorem digs_eq : ∀ c : Fin 256, Lib.indexByte (ByteArray.mk #[48, 49, 50, 51, 52, 53, 54, 55, 56, 57, 97, 98, 99, 100, 101, 102]).data.toList ((c.val : Int).toNat.toUInt8) = idxD c.val := by decide +kernel
theorem digs_any (c : Nat) (w : World) (hc : c < 256) : Calls Tryd.prog 26 #[.string (ByteArray.mk #[48, 49, 50, 51, 52, 53, 54, 55, 56, 57, 97, 98, 99, 100, 101, 102]), .int .u8 c] w fun e w' => e = .returned (.int .i64 (idxD c)) ∧ w = w' := by
  refine (Tryd.strings_IndexByte _ _ w).mono ?_
  rintro e w' ⟨rfl, rfl⟩
  exact ⟨by rw [digs_eq ⟨c, hc⟩], rfl⟩

theorem or4 (n d : Nat) (hn : n < 65536) (hd : d < 16) : bits .or .i64 ((n : Int) * 16) (d : Int) = ((n * 16 + d : Nat) : Int) := by
  rw [show (n : Int) * 16 = ((n * 16 : Nat) : Int) by omega, i64_or_nat _ _ (by omega) (by omega)]
  congr 1
  rw [show n * 16 = n <<< 4 by rw [Nat.shiftLeft_eq], ← Nat.shiftLeft_add_eq_or_of_lt (show d < 2 ^ 4 by omega)]

set_option maxHeartbeats 2000000 in
set_option maxRecDepth 100000 in
theorem qunit_any (b i : Nat) (l : List UInt8) (w : World) (hR : Qrd b l i w) (hl : l.length ≤ 1000000000) :
    Calls Tryd.prog 31 #[.pointer (some ⟨b, 0, none⟩)] w fun e w' => QE b w w' ∧
      (((Qt.unitF 4 0 (l.drop i)).2 = 0 ∧ e = .returned (.int .i64 (Qt.unitF 4 0 (l.drop i)).1) ∧ Qrd b l (i + 4) w') ∨ ((Qt.unitF 4 0 (l.drop i)).2 ≠ 0 ∧ e = dies (Qt.unitF 4 0 (l.drop i)).2)) := by
  obtain ⟨U, hU⟩ : ∃ U, Qt.unitF 4 0 (l.drop i) = U := ⟨_, rfl⟩
  rw [hU]
  go_enter Tryd.func31, Tryd.ntmps31
  go_wp2
  go_loopw [3, 6] (fun nv iv wr => ∃ n k : Nat, nv = .int .i64 n ∧ iv = .int .i64 k ∧ k ≤ 4 ∧ Hid (n < 16 ^ k) ∧ Hid (Qrd b l (i + k) wr ∧ QE b w wr ∧ Qt.unitF (4 - k) n (l.drop (i + k)) = U)) (fun _ iv _ => 4 - (intOf iv).toNat)
  case atStart => exact ⟨0, 0, rfl, rfl, by omega, by unfold Hid; decide, hR, Ext.refl _ _, hU⟩
  case round =>
    obtain ⟨n, k, rfl, rfl, hk, hn, HS⟩ := hrel
    have hn4 : n < 65536 := Nat.lt_of_lt_of_le hn.out (Nat.pow_le_pow_right (by decide) hk)
    by_cases hk4 : k < 4
    · have HS1 := HS.out.2.2
      have hR1 := HS.out.1
      rw [show 4 - k = (3 - k) + 1 by omega] at HS1
      by_cases hlt : i + k < l.length
      · have hby := qbyte_ok b (i + k) l wr hR1 hlt hl
        rw [List.drop_eq_getElem_cons hlt, Qt.unitF, Qt.bt_eq hlt] at HS1
        have hc : Qt.bt l (i + k) < 256 := (l.getD (i + k) 0).toNat_lt
        generalize Qt.bt l (i + k) = c at *
        have hdg := fun W => digs_any (lowr c) W (by unfold lowr; split <;> omega)
        rw [idxD_lowr] at hdg
        have hle := Qt.hexv_le c
        have HL : lowr c = if 65 ≤ c ∧ c ≤ 70 then c + 32 else c := rfl
        have HI : Qt.hexI c = if Qt.hexv c = 16 then -1 else (Qt.hexv c : Int) := rfl
        generalize Qt.hexv c = d at *
        generalize Qt.hexI c = x at *
        generalize lowr c = c' at *
        have hs : Hid (if d = 16 then U = (0, 3) ∧ x = -1 else Qt.unitF (3 - k) (n * 16 + d) (l.drop (i + k + 1)) = U ∧ x = d) := by
          by_cases h16 : d = 16
          · rw [if_pos h16] at HS1 HI
            unfold Hid; rw [if_pos h16]; exact ⟨HS1.symm, HI⟩
          · rw [if_neg h16] at HS1 HI
            unfold Hid; rw [if_neg h16]; exact ⟨HS1, HI⟩
        clear HS1 HI
        have hR0 := Lib.hid hR1
        clear hR1
        go_wp2_with fail
        refine hby.mono ?_
        rintro e w2 ⟨rfl, hR2, hE2⟩
        have HR2 := Lib.hid (And.intro hR2 hE2)
        clear hR2 hE2 hby
        have hcap : (¬(65 ≤ c ∧ c ≤ 70) ∧ c' = c) ∨ (65 ≤ c ∧ c ≤ 70) := by
          by_cases h : 65 ≤ c ∧ c ≤ 70
          · exact .inr h
          · exact .inl ⟨h, by rw [HL, if_neg h]⟩
        rcases hcap with ⟨hcap, rfl⟩ | hcap
        · clear HL
          go_wp2_with fail
          all_goals
          refine (hdg _).mono ?_
          rintro e w3 ⟨rfl, rfl⟩
          by_cases h16 : d = 16
          · have hs1 := hs.out
            rw [if_pos h16] at hs1
            obtain ⟨hU2, rfl⟩ := hs1
            have HU := Lib.hid hU2
            clear hU2 hU hs
            go_wp2_with (first | (go_at_call 17; refine (must_no _ _).mono ?_; rintro e w2 ⟨rfl, rfl⟩))
            refine ⟨rfl, HS.out.2.1.trans HR2.out.2, .inr ⟨by rw [HU.out]; simp, by rw [HU.out]; rfl⟩⟩
          · have hs1 := hs.out
            rw [if_neg h16] at hs1
            obtain ⟨hU2, rfl⟩ := hs1
            have HU := Lib.hid hU2
            clear hU2 hU hs
            have ho := or4 n d hn4 (by omega)
            have hsh : IntKind.i64.wrap ((n : Int) * 16) = (n : Int) * 16 := IntWalk.i64_in _ (by omega)
            go_wp2_with (first | (go_at_call 17; refine (must_yes _ _).mono ?_; rintro e w2 ⟨rfl, rfl⟩))
            go_roundw
            case rel =>
              refine ⟨n * 16 + d, k + 1, by simp, by simp, by omega, ?_, ?_⟩
              · unfold Hid
                have := hn.out
                rw [Nat.pow_succ]; omega
              · exact ⟨HR2.out.1, HS.out.2.1.trans HR2.out.2, by rw [show 4 - (k + 1) = 3 - k by omega]; exact HU.out⟩
            case measure => simp [intOf]; omega
        · have hc' : ((c' : Nat) : Int) = (c : Int) + 32 := by rw [HL, if_pos hcap]; omega
          have hw1 : IntKind.u8.wrap ((c : Int) + 32) = (c : Int) + 32 := IntWalk.u8_in _ (by omega)
          rw [hc'] at hdg
          clear HL hc'
          go_wp2_with fail
          all_goals
          refine (hdg _).mono ?_
          rintro e w3 ⟨rfl, rfl⟩
          by_cases h16 : d = 16
          · have hs1 := hs.out
            rw [if_pos h16] at hs1
            obtain ⟨hU2, rfl⟩ := hs1
            have HU := Lib.hid hU2
            clear hU2 hU hs
            go_wp2_with (first | (go_at_call 17; refine (must_no _ _).mono ?_; rintro e w2 ⟨rfl, rfl⟩))
            refine ⟨rfl, HS.out.2.1.trans HR2.out.2, .inr ⟨by rw [HU.out]; simp, by rw [HU.out]; rfl⟩⟩
          · have hs1 := hs.out
            rw [if_neg h16] at hs1
            obtain ⟨hU2, rfl⟩ := hs1
            have HU := Lib.hid hU2
            clear hU2 hU hs
            have ho := or4 n d hn4 (by omega)
            have hsh : IntKind.i64.wrap ((n : Int) * 16) = (n : Int) * 16 := IntWalk.i64_in _ (by omega)
            go_wp2_with (first | (go_at_call 17; refine (must_yes _ _).mono ?_; rintro e w2 ⟨rfl, rfl⟩))
            go_roundw
            case rel =>
              refine ⟨n * 16 + d, k + 1, by simp, by simp, by omega, ?_, ?_⟩
              · unfold Hid
                have := hn.out
                rw [Nat.pow_succ]; omega
              · exact ⟨HR2.out.1, HS.out.2.1.trans HR2.out.2, by rw [show 4 - (k + 1) = 3 - k by omega]; exact HU.out⟩
            case measure => simp [intOf]; omega
      · have hby := qbyte_no b (i + k) l wr hR1 hlt
        rw [List.drop_eq_nil_of_le (by omega), Qt.unitF] at HS1
        have HU := Lib.hid HS1
        clear HS1 hR1 hU
        go_wp2_with fail
        refine hby.mono ?_
        rintro e w2 ⟨rfl, hE2⟩
        go_wp2
        refine ⟨rfl, HS.out.2.1.trans hE2, .inr ⟨by rw [← HU.out]; simp, by rw [← HU.out]; rfl⟩⟩
    · obtain rfl : k = 4 := by omega
      have HS1 : U = (n, 0) := HS.out.2.2.symm
      have HU := Lib.hid HS1
      clear HS1 hU
      go_wp2
      go_returns
      exact ⟨HS.out.2.1, .inl ⟨by rw [HU.out], by rw [HU.out]; rfl, HS.out.1⟩⟩
end Go.Proofs.YtpoameaaoapiiaaDoor
