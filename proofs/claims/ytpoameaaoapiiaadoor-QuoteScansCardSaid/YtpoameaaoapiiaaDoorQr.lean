/- tabulariumref07: hex, digit, short, unit. -/
import Derived.Test.YtpoameaaoapiiaaDoorChecked
import Derived.Test.YtpoameaaoapiiaaDoorStr
import Derived.Test.YtpoameaaoapiiaaDoorQp
import Derived.Handy
namespace Go.Proofs.YtpoameaaoapiiaaDoor
open Go.RowKit

set_option maxHeartbeats 1000000 in
set_option maxRecDepth 100000 in
theorem hex_any (c : Nat) (w : World) (hc : c < 256) : Calls Tryd.prog 48 #[.int .u8 c] w fun e w' => e = .returned (.int .i64 (Qt.hexI c)) ∧ w = w' := by
  obtain ⟨r, hr⟩ : ∃ r, r = Qt.hexI c := ⟨_, rfl⟩
  rw [← hr]
  have HR := Lib.hid hr
  clear hr
  go_enter Tryd.func48, Tryd.ntmps48
  by_cases h1 : 48 ≤ c ∧ c ≤ 57
  · have hw : IntKind.u8.wrap ((c : Int) - 48) = (c : Int) - 48 := IntWalk.u8_in _ (by omega)
    go_wp2
    go_ret
    refine ⟨congrArg Ending.returned (congrArg (Value.int IntKind.i64) ?_), rfl⟩
    rw [HR.out]; unfold Qt.hexI Qt.hexv; rw [if_pos h1, if_neg (by omega)]; omega
  · by_cases h2 : 97 ≤ c ∧ c ≤ 102
    · have hw : IntKind.u8.wrap ((c : Int) - 97) = (c : Int) - 97 := IntWalk.u8_in _ (by omega)
      go_wp2
      go_ret
      refine ⟨congrArg Ending.returned (congrArg (Value.int IntKind.i64) ?_), rfl⟩
      rw [HR.out]; unfold Qt.hexI Qt.hexv; rw [if_neg h1, if_pos h2, if_neg (by omega)]; omega
    · by_cases h3 : 65 ≤ c ∧ c ≤ 70
      · have hw : IntKind.u8.wrap ((c : Int) - 65) = (c : Int) - 65 := IntWalk.u8_in _ (by omega)
        go_wp2
        go_ret
        refine ⟨congrArg Ending.returned (congrArg (Value.int IntKind.i64) ?_), rfl⟩
        rw [HR.out]; unfold Qt.hexI Qt.hexv; rw [if_neg h1, if_neg h2, if_pos h3, if_neg (by omega)]; omega
      · go_wp2 <;>
        (go_ret
         refine ⟨congrArg Ending.returned (congrArg (Value.int IntKind.i64) ?_), rfl⟩
         rw [HR.out]; unfold Qt.hexI Qt.hexv; rw [if_neg h1, if_neg h2, if_neg h3, if_pos rfl])

set_option maxHeartbeats 2000000 in
set_option maxRecDepth 100000 in
theorem rqunit_any (l : List UInt8) (p : Nat) (w : World) (hp : p ≤ 4611686018427387904) :
    Calls Tryd.prog 44 #[.string (str l), .int .i64 p] w fun e w' =>
      e = .returned (.tuple #[.int .i64 (Qt.unitF 4 0 (l.drop p)).1, .int .i64 (Qt.unitF 4 0 (l.drop p)).2]) ∧ w = w' := by
  go_enter Tryd.func44, Tryd.ntmps44
  go_wp2
  go_loop [6, 7] (fun nv iv => ∃ n i : Nat, nv = .int .i64 n ∧ iv = .int .i64 i ∧ i ≤ 4 ∧ n < 16 ^ i ∧ Hid (Qt.unitF (4 - i) n (l.drop (p + i)) = Qt.unitF 4 0 (l.drop p))) (fun _ iv => 4 - (intOf iv).toNat)
  case atStart => exact ⟨0, 0, rfl, rfl, by omega, by decide, rfl⟩
  case round =>
    obtain ⟨n, i, rfl, rfl, hi, hn, HS⟩ := hrel
    have hn4 : n < 65536 := Nat.lt_of_lt_of_le hn (Nat.pow_le_pow_right (by decide) hi)
    have HN := Lib.hid hn
    clear hn
    by_cases hi4 : i < 4
    · have hw1 : IntKind.i64.wrap ((p : Int) + i) = (p : Int) + i := IntWalk.i64_in _ (by omega)
      have HS1 := HS.out
      rw [show 4 - i = (3 - i) + 1 by omega] at HS1
      by_cases hlt : p + i < l.length
      · rw [List.drop_eq_getElem_cons hlt, Qt.unitF] at HS1
        have hnth := nth_eq hlt
        obtain ⟨b, hb⟩ : ∃ b, b = l[p + i] := ⟨_, rfl⟩
        rw [← hb] at hnth HS1
        have hb256 : b.toNat < 256 := b.toNat_lt
        have hx := fun W => hex_any b.toNat W hb256
        have e2 : 0 ≤ (p : Int) + i ∧ (p : Int) + i < l.length := by omega
        have e1 : ((p : Int) + i).toNat = p + i := by omega
        by_cases h16 : Qt.hexv b.toNat = 16
        · rw [if_pos h16] at HS1
          have hI : Qt.hexI b.toNat = -1 := by unfold Qt.hexI; rw [if_pos h16]
          rw [hI] at hx
          have HS2 := Lib.hid HS1
          clear HS1 HS hb hI h16
          go_wp2_with (first | (go_at_call 48; refine (hx _).mono ?_; rintro e w2 ⟨rfl, rfl⟩))
          go_returns
          exact ⟨by rw [← HS2.out]; rfl, rfl⟩
        · rw [if_neg h16] at HS1
          have hI : Qt.hexI b.toNat = (Qt.hexv b.toNat : Int) := by unfold Qt.hexI; rw [if_neg h16]
          have hle := Qt.hexv_le b.toNat
          rw [hI] at hx
          have HS2 := Lib.hid HS1
          clear HS1 HS hb hI
          obtain ⟨d, hd⟩ : ∃ d, d = Qt.hexv b.toNat := ⟨_, rfl⟩
          rw [← hd] at hx h16 hle
          have HS3 : Hid (Qt.unitF (3 - i) (n * 16 + d) (l.drop (p + i + 1)) = Qt.unitF 4 0 (l.drop p)) := by rw [hd]; exact HS2
          clear hd HS2
          have hw2 : IntKind.i64.wrap ((n : Int) * 16) = (n : Int) * 16 := IntWalk.i64_in _ (by omega)
          have hw3 : IntKind.i64.wrap ((n : Int) * 16 + d) = (n : Int) * 16 + d := IntWalk.i64_in _ (by omega)
          go_wp2_with (first | (go_at_call 48; refine (hx _).mono ?_; rintro e w2 ⟨rfl, rfl⟩))
          go_round
          case rel =>
            refine ⟨n * 16 + d, i + 1, by simp, by simp, by omega, ?_, ?_⟩
            · rw [Nat.pow_succ]
              have := HN.out
              omega
            · unfold Hid
              rw [← HS3.out, show 4 - (i + 1) = 3 - i by omega]; rfl
          case measure => simp [intOf]; omega
      · rw [List.drop_eq_nil_of_le (by omega), Qt.unitF] at HS1
        have HS2 := Lib.hid HS1
        clear HS1 HS
        go_wp2
        go_returns
        exact ⟨by rw [← HS2.out]; rfl, rfl⟩
    · have hi0 : i = 4 := by omega
      subst hi0
      go_wp2
      go_returns
      exact ⟨by rw [← HS.out]; rfl, rfl⟩
end Go.Proofs.YtpoameaaoapiiaaDoor
