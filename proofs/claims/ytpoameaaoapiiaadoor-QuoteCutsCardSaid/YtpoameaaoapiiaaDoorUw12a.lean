/- tabulariumref02.Bad, Valid, All. -/
import Derived.Test.YtpoameaaoapiiaaDoorUw11
namespace Go.Proofs.YtpoameaaoapiiaaDoor
open Go.RowKit

theorem own_below {w w' : World} {base : Nat} {e : TypeId} {sz : Nat} {v : Value} {k : Nat} {xs : List Value} (h : w.ownsRow base e sz v k xs) (hb : Below w.heap.size w w') : w'.ownsRow base e sz v k xs :=
  h.kept (row := none) ⟨hb.os, hb.tape, hb.output, hb.size, fun q hq _ => hb.block q hq⟩ (by cases v.ownBlock <;> simp)
set_option maxHeartbeats 1000000 in
set_option maxRecDepth 100000 in
theorem refbad_any (l : List UInt8) (w : World) (hl : l.length ≤ 4611686018427387904) :
    Calls Tryd.prog 23 #[.string (str l)] w fun e w' => e = .returned (.int .i64 (badI l)) ∧ Below w.heap.size w w' := by
  have HB := Lib.hid (badI_eq l)
  generalize badI l = ans at *
  go_enter Tryd.func23, Tryd.ntmps23
  go_wp2
  go_loopw [3] (fun av wr => ∃ p : Nat, av = .int .i64 p ∧ p ≤ l.length ∧ Below w.heap.size w wr ∧ Hid (Utf.stop l = (Utf.scan (l.drop p) p).2)) (fun av _ => l.length - (intOf av).toNat)
  case atStart => exact ⟨0, rfl, by omega, Below.refl _ _, rfl⟩
  case round =>
    obtain ⟨p, rfl, hp, hB, HS⟩ := hrel
    by_cases hlt : p < l.length
    · obtain ⟨c, n, hn⟩ : ∃ c n, Utf.next (l.drop p) = (c, n) := ⟨_, _, rfl⟩
      have hcon := one_any l p wr hp hl
      rw [hn] at hcon
      have HN := Lib.hid hn
      have hle := Utf.next_le (l := l.drop p)
      rw [hn, List.length_drop] at hle
      simp only at hle
      clear hn
      by_cases hz : n = 0
      · subst hz
        go_wp2_with fail
        refine hcon.mono ?_
        rintro e w2 ⟨rfl, hB2⟩
        go_wp2
        go_ret
        refine ⟨congrArg Ending.returned (congrArg (Value.int IntKind.i64) ?_), hB.trans (hB2.mono hB.size)⟩
        have h1 := HS.out
        rw [Utf.scan_no (by rw [HN.out])] at h1
        have h2 : Utf.stop l = p := h1
        rw [HB.out, h2, if_neg (by omega)]
      · have hzb : ((n : Int) == 0) = false := by simp; omega
        go_wp2_with fail
        refine hcon.mono ?_
        rintro e w2 ⟨rfl, hB2⟩
        go_wp2
        go_roundw
        case rel =>
          refine ⟨p + n, by simp, by omega, hB.trans (hB2.mono hB.size), ?_⟩
          have h1 := HS.out
          rw [Utf.scan_ok (by rw [HN.out]; exact hz), HN.out, List.drop_drop] at h1
          exact h1
        case measure => simp [intOf]; omega
    · go_wp2
      go_ret
      refine ⟨congrArg Ending.returned (congrArg (Value.int IntKind.i64) ?_), hB⟩
      have h1 := HS.out
      rw [List.drop_eq_nil_of_le (by omega), Utf.scan_nil] at h1
      have h2 : Utf.stop l = p := h1
      rw [HB.out, h2, if_pos (by omega)]
set_option maxHeartbeats 1000000 in
set_option maxRecDepth 100000 in
theorem refvalid_any (l : List UInt8) (w : World) (hl : l.length ≤ 4611686018427387904) : Calls Tryd.prog 12 #[.string (str l)] w fun e w' =>
    e = .returned (.bool (Utf.valid l)) ∧ Below w.heap.size w w' := by
  have hcon := refbad_any l w hl
  have hv : Utf.valid l = decide (badI l < 0) := by
    unfold badI
    cases Utf.valid l
    · rw [if_neg (by simp)]; exact (decide_eq_false (by omega)).symm
    · rw [if_pos rfl]; rfl
  rw [hv]
  clear hv
  generalize badI l = ans at *
  go_enter Tryd.func12, Tryd.ntmps12
  go_wp2_with fail
  refine hcon.mono ?_
  rintro e w' ⟨rfl, hB⟩
  go_wp2
  go_ret
  exact ⟨rfl, hB⟩
end Go.Proofs.YtpoameaaoapiiaaDoor
