/- utf: what walk, Bad, Valid compute. -/
import Derived.Test.YtpoameaaoapiiaaDoorUw2
namespace Go.Proofs.YtpoameaaoapiiaaDoor
open Go.RowKit

set_option maxHeartbeats 1000000 in
set_option maxRecDepth 100000 in
theorem badf_any (a c : Int) (w : World) : Calls Tryd.prog 45 #[.int .i64 a, .int .i64 c] w fun e w' => e = .returned (.bool true) ∧ w = w' := by
  go_enter Tryd.func45, Tryd.ntmps45
  go_wp2
  go_ret
  exact ⟨rfl, rfl⟩
set_option maxHeartbeats 1000000 in
set_option maxRecDepth 100000 in
theorem walk_plain (l : List UInt8) (w : World) (hF : Forms w) (hl : l.length ≤ 4611686018427387904) : Calls Tryd.prog 41 #[.string (str l), .func (.func 45) #[] #[]] w fun e w' =>
    e = .returned (.int .i64 (Utf.stop l)) ∧ Below w.heap.size w w' := by
  go_enter Tryd.func41, Tryd.ntmps41
  go_wp2
  go_loopw [5] (fun av wr => ∃ p : Nat, av = .int .i64 p ∧ p ≤ l.length ∧ Below w.heap.size w wr ∧ Hid (Utf.stop l = (Utf.scan (l.drop p) p).2)) (fun av _ => l.length - (intOf av).toNat)
  case atStart => exact ⟨0, rfl, by omega, Below.refl _ _, rfl⟩
  case round =>
    obtain ⟨p, rfl, hp, hB, HS⟩ := hrel
    by_cases hlt : p < l.length
    · have hFw := hF.below hB
      obtain ⟨c, n, hn⟩ : ∃ c n, Utf.next (l.drop p) = (c, n) := ⟨_, _, rfl⟩
      have hcon := next_any (l.drop p) wr hFw
      rw [hn] at hcon
      have HN := Lib.hid hn
      have hle := Utf.next_le (l := l.drop p)
      rw [hn, List.length_drop] at hle
      simp only at hle
      clear hn
      by_cases hz : n = 0
      · subst hz
        go_wp2_with fail
        refine hcon.mono ?_
        rintro e w2 ⟨rfl, hB2⟩
        go_wp2
        go_ret
        refine ⟨congrArg Ending.returned (congrArg (Value.int IntKind.i64) ?_), hB.trans (hB2.mono hB.size)⟩
        have h1 := HS.out
        rw [Utf.scan_no (by rw [HN.out])] at h1
        rw [h1]
      · have hzb : ((n : Int) == 0) = false := by simp; omega
        go_wp2_with fail
        refine hcon.mono ?_
        rintro e w2 ⟨rfl, hB2⟩
        go_wp2_with fail
        refine (badf_any _ _ _).mono ?_
        rintro e w3 ⟨rfl, rfl⟩
        go_wp2
        go_roundw
        case rel =>
          refine ⟨p + n, by simp, by omega, hB.trans (hB2.mono hB.size), ?_⟩
          have h1 := HS.out
          rw [Utf.scan_ok (by rw [HN.out]; exact hz), HN.out, List.drop_drop] at h1
          exact h1
        case measure => simp [intOf]; omega
    · go_wp2
      go_ret
      refine ⟨congrArg Ending.returned (congrArg (Value.int IntKind.i64) ?_), hB⟩
      have h1 := HS.out
      rw [List.drop_eq_nil_of_le (by omega), Utf.scan_nil] at h1
      rw [h1]
/-- The first place that is no text's. -/
def badI (l : List UInt8) : Int := if Utf.valid l = true then -1 else (Utf.stop l : Int)
theorem badI_eq (l : List UInt8) : badI l = if Utf.stop l = l.length then -1 else (Utf.stop l : Int) := by
  unfold badI Utf.valid
  by_cases h : Utf.stop l = l.length
  · rw [if_pos h, if_pos (decide_eq_true h)]
  · rw [if_neg h, if_neg (by rw [decide_eq_true_eq]; exact h)]
set_option maxHeartbeats 1000000 in
set_option maxRecDepth 100000 in
theorem bad_any (l : List UInt8) (w : World) (hF : Forms w) (hl : l.length ≤ 4611686018427387904) : Calls Tryd.prog 36 #[.string (str l)] w fun e w' =>
    e = .returned (.int .i64 (badI l)) ∧ Below w.heap.size w w' := by
  have hcon := walk_plain l w hF hl
  have HV : Hid (badI l = if Utf.stop l = l.length then -1 else (Utf.stop l : Int)) := badI_eq l
  generalize badI l = ans at *
  generalize Utf.stop l = st at *
  go_enter Tryd.func36, Tryd.ntmps36
  go_wp2_with fail
  refine hcon.mono ?_
  rintro e w' ⟨rfl, hB⟩
  by_cases hs : st = l.length
  · have hb : ((st : Int) == (l.length : Int)) = true := by rw [hs]; simp
    go_wp2
    go_ret
    refine ⟨?_, hB⟩
    rw [HV.out, if_pos hs]; rfl
  · have hb : ((st : Int) == (l.length : Int)) = false := by simp; omega
    go_wp2
    go_ret
    refine ⟨?_, hB⟩
    rw [HV.out, if_neg hs]; rfl
set_option maxHeartbeats 1000000 in
set_option maxRecDepth 100000 in
theorem valid_any (l : List UInt8) (w : World) (hF : Forms w) (hl : l.length ≤ 4611686018427387904) : Calls Tryd.prog 24 #[.string (str l)] w fun e w' =>
    e = .returned (.bool (Utf.valid l)) ∧ Below w.heap.size w w' := by
  have hcon := bad_any l w hF hl
  have hv : Utf.valid l = decide (badI l < 0) := by
    unfold badI
    cases Utf.valid l
    · rw [if_neg (by simp)]; exact (decide_eq_false (by omega)).symm
    · rw [if_pos rfl]; rfl
  rw [hv]
  clear hv
  generalize badI l = ans at *
  go_enter Tryd.func24, Tryd.ntmps24
  go_wp2_with fail
  refine hcon.mono ?_
  rintro e w' ⟨rfl, hB⟩
  go_wp2
  go_ret
  exact ⟨rfl, hB⟩
end Go.Proofs.YtpoameaaoapiiaaDoor
