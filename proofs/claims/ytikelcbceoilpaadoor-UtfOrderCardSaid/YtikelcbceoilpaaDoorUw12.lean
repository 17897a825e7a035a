/- tabulariumref02.Bad, Valid, All. -/
import Derived.Test.YtikelcbceoilpaaDoorUw11
namespace Go.Proofs.YtikelcbceoilpaaDoor
open Go.RowKit

theorem own_below {w w' : World} {base : Nat} {e : TypeId} {sz : Nat} {v : Value} {k : Nat} {xs : List Value} (h : w.ownsRow base e sz v k xs) (hb : Below w.heap.size w w') : w'.ownsRow base e sz v k xs :=
  h.kept (row := none) ⟨hb.os, hb.tape, hb.output, hb.size, fun q hq _ => hb.block q hq⟩ (by cases v.ownBlock <;> simp)
set_option maxHeartbeats 1000000 in
set_option maxRecDepth 100000 in
theorem refbad_any (l : List UInt8) (w : World) (hl : l.length ≤ 4611686018427387904) :
    Calls Tryd.prog 16 #[.string (str l)] w fun e w' => e = .returned (.int .i64 (badI l)) ∧ Below w.heap.size w w' := by
  have HB := Lib.hid (badI_eq l)
  generalize badI l = ans at *
  go_enter Tryd.func16, Tryd.ntmps16
  go_wp2
  go_loopw [3] (fun av wr => ∃ p : Nat, av = .int .i64 p ∧ p ≤ l.length ∧ Below w.heap.size w wr ∧ Hid (Utf.stop l = (Utf.scan (l.drop p) p).2)) (fun av _ => l.length - (intOf av).toNat)
  case atStart => exact ⟨0, rfl, by omega, Below.refl _ _, rfl⟩
  case round =>
    obtain ⟨p, rfl, hp, hB, HS⟩ := hrel
    by_cases hlt : p < l.length
    · obtain ⟨c, n, hn⟩ : ∃ c n, Utf.next (l.drop p) = (c, n) := ⟨_, _, rfl⟩
      have hcon := one_any l p wr hp hl
      rw [hn] at hcon
      have HN := Lib.hid hn
      have hle := Utf.next_le (l := l.drop p)
      rw [hn, List.length_drop] at hle
      simp only at hle
      clear hn
      by_cases hz : n = 0
      · subst hz
        go_wp2_with fail
        refine hcon.mono ?_
        rintro e w2 ⟨rfl, hB2⟩
        go_wp2
        go_ret
        refine ⟨congrArg Ending.returned (congrArg (Value.int IntKind.i64) ?_), hB.trans (hB2.mono hB.size)⟩
        have h1 := HS.out
        rw [Utf.scan_no (by rw [HN.out])] at h1
        have h2 : Utf.stop l = p := h1
        rw [HB.out, h2, if_neg (by omega)]
      · have hzb : ((n : Int) == 0) = false := by simp; omega
        go_wp2_with fail
        refine hcon.mono ?_
        rintro e w2 ⟨rfl, hB2⟩
        go_wp2
        go_roundw
        case rel =>
          refine ⟨p + n, by simp, by omega, hB.trans (hB2.mono hB.size), ?_⟩
          have h1 := HS.out
          rw [Utf.scan_ok (by rw [HN.out]; exact hz), HN.out, List.drop_drop] at h1
          exact h1
        case measure => simp [intOf]; omega
    · go_wp2
      go_ret
      refine ⟨congrArg Ending.returned (congrArg (Value.int IntKind.i64) ?_), hB⟩
      have h1 := HS.out
      rw [List.drop_eq_nil_of_le (by omega), Utf.scan_nil] at h1
      have h2 : Utf.stop l = p := h1
      rw [HB.out, h2, if_pos (by omega)]
set_option maxHeartbeats 1000000 in
set_option maxRecDepth 100000 in
theorem refvalid_any (l : List UInt8) (w : World) (hl : l.length ≤ 4611686018427387904) : Calls Tryd.prog 12 #[.string (str l)] w fun e w' =>
    e = .returned (.bool (Utf.valid l)) ∧ Below w.heap.size w w' := by
  have hcon := refbad_any l w hl
  have hv : Utf.valid l = decide (badI l < 0) := by
    unfold badI
    cases Utf.valid l
    · rw [if_neg (by simp)]; exact (decide_eq_false (by omega)).symm
    · rw [if_pos rfl]; rfl
  rw [hv]
  clear hv
  generalize badI l = ans at *
  go_enter Tryd.func12, Tryd.ntmps12
  go_wp2_with fail
  refine hcon.mono ?_
  rintro e w' ⟨rfl, hB⟩
  go_wp2
  go_ret
  exact ⟨rfl, hB⟩
set_option maxHeartbeats 1000000 in
set_option maxRecDepth 100000 in
theorem refall_any (l : List UInt8) (w : World) (hl : l.length ≤ 1000000) :
    Calls Tryd.prog 9 #[.string (str l)] w (OwnedS w 30 2 (sval (Utf.all l))) := by
  obtain ⟨i0, hi, hz0, hz1, hz2⟩ := info_parts infoS
  go_enter Tryd.func9, Tryd.ntmps9
  go_wp2
  go_loopw [3, 4] (fun ov av wr => ∃ (p : Nat) (pre : List (Nat × Nat)) (A' : Option Addr) (c' : Nat), ov = .slice A' pre.length c' ∧ av = .int .i64 p ∧ p ≤ l.length ∧ pre.length ≤ p ∧ wr.ownsRow w.heap.size 30 2 (.slice A' pre.length c') pre.length (sval pre) ∧ Below w.heap.size w wr ∧ Hid (pre ++ (Utf.scan (l.drop p) p).1 = Utf.all l)) (fun _ av _ => l.length - (intOf av).toNat)
  case atStart => exact ⟨0, [], none, 0, rfl, rfl, by omega, by simp, World.ownsRow_nil _ _ _ _, Below.refl _ _, rfl⟩
  case round =>
    obtain ⟨p, pre, A', c', rfl, rfl, hp, hpre, hown, hB, HS⟩ := hrel
    by_cases hlt : p < l.length
    · obtain ⟨c, n, hn⟩ : ∃ c n, Utf.next (l.drop p) = (c, n) := ⟨_, _, rfl⟩
      have hcon := one_any l p wr hp (by omega)
      rw [hn] at hcon
      have HN := Lib.hid hn
      have hle := Utf.next_le (l := l.drop p)
      rw [hn, List.length_drop] at hle
      simp only at hle
      clear hn
      by_cases hz : n = 0
      · subst hz
        go_wp2_with fail
        refine hcon.mono ?_
        rintro e w2 ⟨rfl, hB2⟩
        have hown2 := own_below hown hB2
        go_wp2
        go_ret
        refine ⟨A', _, c', rfl, ?_, hB.trans (hB2.mono hB.size)⟩
        have h1 := HS.out
        rw [Utf.scan_no (by rw [HN.out]), List.append_nil] at h1
        rw [← h1]
        exact hown2
      · have hzb : ((n : Int) == 0) = false := by simp; omega
        go_wp2_with fail
        refine hcon.mono ?_
        rintro e w2 ⟨rfl, hB2⟩
        have hown2 := own_below hown hB2
        have hB2' := hB.trans (hB2.mono hB.size)
        go_wp2_with (first
          | (at_builtin
             refine wpList_append_rd _ rfl _ _ _ rfl w.heap.size 30 i0 _ 2 16 Tryd.underlying23 hi hz0 hz1 hz2 rfl (by omega) _ _ _ (hown2.alloc _) rfl _ 1 1 _ (Rd.newE _ _ [.int .i64 (p : Int), .int .i64 (c : Int)] 2 rfl) rfl (by simp [Value.oneCell']) (by unfold maxLen; omega) (by omega) (hB2'.alloc hB2'.size _).size _ rfl _ rfl ?_
             intro A3 c3 w3 hown3 hg3 _
             have hB3 := below_append (hB2'.alloc hB2'.size _) (hown2.alloc _) hg3 (Nat.le_refl _) (hB2'.alloc hB2'.size _).size))
        go_roundw
        case rel =>
          refine ⟨p + n, pre ++ [(p, c)], A3, c3, by simp, by simp, by omega, by simp; omega, ?_, hB3, ?_⟩
          · rw [sval_snoc, List.length_append]
            exact hown3
          · have h1 := HS.out
            rw [Utf.scan_ok (by rw [HN.out]; exact hz), HN.out, List.drop_drop] at h1
            unfold Hid
            simpa using h1
        case measure => simp [intOf]; omega
    · go_wp2
      go_ret
      refine ⟨A', _, c', rfl, ?_, hB⟩
      have h1 := HS.out
      rw [List.drop_eq_nil_of_le (by omega), Utf.scan_nil, List.append_nil] at h1
      rw [← h1]
      exact hown
end Go.Proofs.YtikelcbceoilpaaDoor
