/- quote: Print. -/
import Derived.Test.YtpoameaaoapiiaaDoorQq
import Derived.Test.YtpoameaaoapiiaaDoorBld
import Derived.Test.YtpoameaaoapiiaaDoorUw3
import Derived.Test.YtpoameaaoapiiaaDoorUw5a
namespace Go.Proofs.YtpoameaaoapiiaaDoor
open Go.RowKit

theorem mns_eq : ∀ c : Fin 256, (c.val = 47 ∧ Lib.indexByte (ByteArray.mk #[34, 92, 47, 8, 12, 10, 13, 9]).data.toList ((c.val : Int).toNat.toUInt8) = 2) ∨ (Qt.shortc c.val = 0 ∧ Lib.indexByte (ByteArray.mk #[34, 92, 47, 8, 12, 10, 13, 9]).data.toList ((c.val : Int).toNat.toUInt8) = -1) ∨
    (Qt.shortc c.val ≠ 0 ∧ c.val ≠ 47 ∧ ∃ k : Fin 8, Lib.indexByte (ByteArray.mk #[34, 92, 47, 8, 12, 10, 13, 9]).data.toList ((c.val : Int).toNat.toUInt8) = (k.val : Int) ∧ nth [34, 92, 47, 98, 102, 110, 114, 116] k.val = (Qt.shortc c.val : Int)) := by decide +kernel
/-- What Print finds of a byte. -/
theorem mns_any (c : Nat) (hc : c < 256) : ∃ k : Int, (∀ w, Calls Tryd.prog 26 #[.string (ByteArray.mk #[34, 92, 47, 8, 12, 10, 13, 9]), .int .u8 c] w fun e w' => e = .returned (.int .i64 k) ∧ w = w') ∧
    ((Qt.shortc c = 0 ∧ (decide (0 ≤ k) = false ∨ (decide (0 ≤ k) = true ∧ ((c : Int) != 47) = false))) ∨
      (Qt.shortc c ≠ 0 ∧ decide (0 ≤ k) = true ∧ ((c : Int) != 47) = true ∧ (0 ≤ k ∧ k < 8) ∧ nth [34, 92, 47, 98, 102, 110, 114, 116] k.toNat = (Qt.shortc c : Int))) := by
  rcases mns_eq ⟨c, hc⟩ with ⟨h, h1⟩ | ⟨h, h1⟩ | ⟨h, h0, k, h1, h2⟩
  · refine ⟨2, fun w => (Tryd.strings_IndexByte _ _ w).mono ?_, .inl ⟨?_, .inr ⟨by decide, ?_⟩⟩⟩
    · rintro e w' ⟨rfl, rfl⟩
      exact ⟨by rw [h1], rfl⟩
    · simp only at h; rw [h]; decide
    · simp only at h; rw [h]; decide
  · refine ⟨-1, fun w => (Tryd.strings_IndexByte _ _ w).mono ?_, .inl ⟨h, .inl (by decide)⟩⟩
    rintro e w' ⟨rfl, rfl⟩
    exact ⟨by rw [h1], rfl⟩
  · refine ⟨k.val, fun w => (Tryd.strings_IndexByte _ _ w).mono ?_, .inr ⟨h, by simp, ?_, by omega, by rw [Int.toNat_natCast]; exact h2⟩⟩
    · rintro e w' ⟨rfl, rfl⟩
      exact ⟨by rw [h1], rfl⟩
    · simp only at h0; simp; omega

theorem dig_get : ∀ (x : Nat) (h : x < (ByteArray.mk #[48, 49, 50, 51, 52, 53, 54, 55, 56, 57, 97, 98, 99, 100, 101, 102]).size), (ByteArray.mk #[48, 49, 50, 51, 52, 53, 54, 55, 56, 57, 97, 98, 99, 100, 101, 102])[x]'h = UInt8.ofNat (Qt.hexd x) := by
  have h : ∀ x : Fin 16, (ByteArray.mk #[48, 49, 50, 51, 52, 53, 54, 55, 56, 57, 97, 98, 99, 100, 101, 102])[x.val]'(by have := x.isLt; show x.val < 16; omega) = UInt8.ofNat (Qt.hexd x.val) := by decide +kernel
  intro x hx
  exact h ⟨x, hx⟩

/-- What is between two rounds of Print. -/
structure PrI (w : World) (l : List UInt8) (bb i : Nat) (s : List UInt8) (W : World) : Prop where
  below : Below w.heap.size w W
  bld : Bld bb bb s W
  lt : bb < W.heap.size
  s : s = 34 :: Qt.pps (l.take i)

set_option maxHeartbeats 4000000 in
set_option maxRecDepth 1000000 in
theorem qprint_yes (l : List UInt8) (w : World) (hF : Forms w) (hl : l.length ≤ 1000000) (hv : Utf.valid l = true) :
    Calls Tryd.prog 13 #[.string (str l)] w fun e w' => e = .returned (.tuple #[.string (str (Qt.print l)), .int .i64 0]) ∧ Below w.heap.size w w' := by
  have hval := valid_any l w hF (by omega)
  rw [hv] at hval
  clear hv hF
  go_enter Tryd.func13, Tryd.ntmps13
  go_wp2_with fail
  refine hval.mono ?_
  rintro e w2 ⟨rfl, hB2⟩
  go_wp2_with fail
  have hnew := Lib.fresh_isBuilder 43 5 w2
  have hB3 := hB2.alloc hB2.size (.cells #[.pointer none, .slice none 0 0] 43)
  have hlt3 : w2.heap.size < (w2.alloc (.cells #[.pointer none, .slice none 0 0] 43)).heap.size := by simp
  have hbw : w.heap.size ≤ w2.heap.size := hB2.size
  generalize w2.alloc (.cells #[.pointer none, .slice none 0 0] 43) = W3 at hnew hB3 hlt3 ⊢
  generalize w2.heap.size = bb at hnew hB3 hlt3 hbw ⊢
  refine (bwbyte_any bb bb [] 34 W3 hnew (by simp) (by omega)).mono ?_
  rintro e w4 ⟨rfl, hb4, hB4⟩
  have hI0 : PrI w l bb 0 [34] w4 := ⟨hB3.trans (hB4.mono hbw), hb4, Nat.lt_of_lt_of_le hlt3 hB4.size, by rw [List.take_zero]; rfl⟩
  clear hnew hB3 hlt3 hb4 hB4 hB2 hval
  go_wp2_with fail
  go_loopw [14] (fun iv wr => ∃ (i : Nat) (s : List UInt8), iv = .int .i64 i ∧ i ≤ l.length ∧ Hid (PrI w l bb i s wr)) (fun iv _ => l.length - (intOf iv).toNat)
  case atStart => exact ⟨0, [34], rfl, by omega, hI0⟩
  case round =>
    obtain ⟨i, s, rfl, hi, HI⟩ := hrel
    clear hI0
    have hsl : s.length ≤ 6 * i + 1 := by rw [HI.out.s]; have := Qt.pps_take_len l i; simp; omega
    by_cases hlt : i < l.length
    · have hnx := Qt.pps_next l i hlt
      obtain ⟨c, hc⟩ : ∃ c : UInt8, c = UInt8.ofNat (Qt.bt l i) := ⟨_, rfl⟩
      have hcn : c.toNat = Qt.bt l i := by rw [hc, ← Qt.bt_eq hlt]; simp
      have hix : nth l i = (c.toNat : Int) := by rw [hcn]; rfl
      have e1 : 0 ≤ (i : Int) ∧ (i : Int) < l.length := by omega
      have hw1 : IntKind.i64.wrap ((i : Int) + 1) = (i : Int) + 1 := IntWalk.i64_in _ (by omega)
      have d1 : decide (i < l.length) = true := decide_eq_true hlt
      rw [← hc] at hnx
      have hs2 : s ++ Qt.pp c = 34 :: Qt.pps (l.take (i + 1)) := by rw [HI.out.s, hnx]; rfl
      have HS2 := Lib.hid hs2
      clear hnx hs2 hc hcn
      obtain ⟨k, hk, hcase⟩ := mns_any c.toNat c.toNat_lt
      rcases hcase with ⟨h0, hcase⟩ | ⟨h0, hk0, hc47, hk8, hsg⟩
      · by_cases h2 : c.toNat < 32
        · have hpp : Qt.pp c = [92, 117, 48, 48, UInt8.ofNat (Qt.hexd (c.toNat / 16)), UInt8.ofNat (Qt.hexd (c.toNat % 16))] := by unfold Qt.pp; rw [if_neg (by simpa using h0), if_pos h2]
          rw [hpp] at HS2
          clear hpp h0
          generalize c.toNat = n at *
          have hdc : decide ((n : Int) < 32) = true := by simp; omega
          have hws := fun W h hB => bwstring_any bb bb s [92, 117, 48, 48] W h (by simp; omega) hB
          have hwx := fun W h hB => bwbyte_any bb bb (s ++ [92, 117, 48, 48]) (UInt8.ofNat (Qt.hexd (n / 16))) W h (by simp; omega) hB
          have hwy := fun W h hB => bwbyte_any bb bb (s ++ [92, 117, 48, 48] ++ [UInt8.ofNat (Qt.hexd (n / 16))]) (UInt8.ofNat (Qt.hexd (n % 16))) W h (by simp; omega) hB
          rcases hcase with k1 | ⟨k1, k2⟩
          all_goals
            go_wp2_with (first | (go_at_call 26; refine (hk _).mono ?_; rintro e w5 ⟨rfl, rfl⟩))
            refine (hws _ HI.out.bld (Nat.le_of_lt HI.out.lt)).mono ?_
            rintro e w5 ⟨rfl, hb5, hB5⟩
            go_wp2_with fail
            rw [dig_get]
            refine (hwx _ hb5 (Nat.le_of_lt (Nat.lt_of_lt_of_le HI.out.lt hB5.size))).mono ?_
            rintro e w6 ⟨rfl, hb6, hB6⟩
            go_wp2_with fail
            rw [dig_get]
            refine (hwy _ hb6 (Nat.le_of_lt (Nat.lt_of_lt_of_le HI.out.lt (Nat.le_trans hB5.size hB6.size)))).mono ?_
            rintro e w7 ⟨rfl, hb7, hB7⟩
            rw [List.append_assoc, List.append_assoc] at hb7
            clear hws hwx hwy hk
            generalize UInt8.ofNat (Qt.hexd (n / 16)) = cx at *
            generalize UInt8.ofNat (Qt.hexd (n % 16)) = cy at *
            go_wp2
            go_roundw
            case rel => exact ⟨i + 1, s ++ [92, 117, 48, 48, cx, cy], by simp, by omega, ((HI.out.below.trans (hB5.mono hbw)).trans (hB6.mono hbw)).trans (hB7.mono hbw), hb7, Nat.lt_of_lt_of_le HI.out.lt (Nat.le_trans hB5.size (Nat.le_trans hB6.size hB7.size)), HS2.out⟩
            case measure => simp [intOf]; omega
        · have hpp : Qt.pp c = [c] := by unfold Qt.pp; rw [if_neg (by simpa using h0), if_neg h2]
          rw [hpp] at HS2
          have hdc : decide ((c.toNat : Int) < 32) = false := by simp; omega
          clear hpp h0 h2
          have hwb := fun W h hB => bwbyte_any bb bb s c W h (by omega) hB
          rcases hcase with k1 | ⟨k1, k2⟩
          all_goals
            go_wp2_with (first | (go_at_call 26; refine (hk _).mono ?_; rintro e w5 ⟨rfl, rfl⟩))
            refine (hwb _ HI.out.bld (Nat.le_of_lt HI.out.lt)).mono ?_
            rintro e w5 ⟨rfl, hb5, hB5⟩
            go_wp2
            go_roundw
            case rel => exact ⟨i + 1, s ++ [c], by simp, by omega, HI.out.below.trans (hB5.mono hbw), hb5, Nat.lt_of_lt_of_le HI.out.lt hB5.size, HS2.out⟩
            case measure => simp [intOf]; omega
      · obtain ⟨d, hd⟩ : ∃ d : UInt8, d = UInt8.ofNat (Qt.shortc c.toNat) := ⟨_, rfl⟩
        have hpp : Qt.pp c = [92, d] := by unfold Qt.pp; rw [if_pos h0, hd]
        have hdn : d.toNat = Qt.shortc c.toNat := by
          rw [hd]
          have : Qt.shortc c.toNat < 256 := by
            rcases Qt.shortc_cases h0 with h | h | h | h | h | h | h <;> rw [h] <;> decide
          simp; omega
        rw [← hdn] at hsg
        rw [hpp] at HS2
        have hsi : ∀ W : World, (Instr.index 9 (.string (ByteArray.mk #[34, 92, 47, 98, 102, 110, 114, 116])) (.int .i64 k)).run Tryd.prog W = .ok (.int .u8 (d.toNat : Int)) W := fun W => by
          have h1 := run_index_str (P := Tryd.prog) W 9 [34, 92, 47, 98, 102, 110, 114, 116] .i64 k Tryd.underlying9
          rw [if_pos ⟨hk8.1, by simpa using hk8.2⟩, hsg] at h1
          exact h1
        have hwb1 := fun W h hB => bwbyte_any bb bb s 92 W h (by omega) hB
        have hwb2 := fun W h hB => bwbyte_any bb bb (s ++ [92]) d W h (by simp; omega) hB
        clear hpp hdn hd h0 hsg hk8
        go_wp2_with (first | (go_at_call 26; refine (hk _).mono ?_; rintro e w5 ⟨rfl, rfl⟩))
        refine (hwb1 _ HI.out.bld (Nat.le_of_lt HI.out.lt)).mono ?_
        rintro e w5 ⟨rfl, hb5, hB5⟩
        go_wp2_with fail
        refine (hwb2 _ hb5 (Nat.le_of_lt (Nat.lt_of_lt_of_le HI.out.lt hB5.size))).mono ?_
        rintro e w6 ⟨rfl, hb6, hB6⟩
        rw [List.append_assoc] at hb6
        go_wp2
        go_roundw
        case rel => exact ⟨i + 1, s ++ [92, d], by simp, by omega, (HI.out.below.trans (hB5.mono hbw)).trans (hB6.mono hbw), hb6, Nat.lt_of_lt_of_le HI.out.lt (Nat.le_trans hB5.size hB6.size), HS2.out⟩
        case measure => simp [intOf]; omega
    · obtain rfl : i = l.length := by omega
      have HP : Hid (s ++ [34] = Qt.print l) := by
        unfold Hid Qt.print
        rw [HI.out.s, List.take_of_length_le (Nat.le_refl _)]; rfl
      go_wp2_with fail
      refine (bwbyte_any bb bb s 34 wr HI.out.bld (by omega) (Nat.le_of_lt HI.out.lt)).mono ?_
      rintro e w5 ⟨rfl, hb5, hB5⟩
      rw [HP.out] at hb5
      go_wp2_with fail
      refine (bstring_any bb bb (Qt.print l) w5 hb5 (Nat.le_of_lt (Nat.lt_of_lt_of_le HI.out.lt hB5.size))).mono ?_
      rintro e w6 ⟨rfl, hB6⟩
      go_wp2
      go_ret2
      exact ⟨rfl, (HI.out.below.trans (hB5.mono hbw)).trans (hB6.mono hbw)⟩

set_option maxHeartbeats 1000000 in
set_option maxRecDepth 100000 in
theorem qprint_no (l : List UInt8) (w : World) (hF : Forms w) (hl : l.length ≤ 1000000) (hv : Utf.valid l = false) :
    Calls Tryd.prog 13 #[.string (str l)] w fun e w' => e = .returned (.tuple #[.string (str []), .int .i64 7]) ∧ Below w.heap.size w w' := by
  have hval := valid_any l w hF (by omega)
  rw [hv] at hval
  clear hv hF
  go_enter Tryd.func13, Tryd.ntmps13
  go_wp2_with fail
  refine hval.mono ?_
  rintro e w2 ⟨rfl, hB2⟩
  go_wp2
  go_ret2
  exact ⟨rfl, hB2⟩
/-- What Print tells. -/
def Qt.printed (l : List UInt8) : List UInt8 × Nat := if Utf.valid l = true then (Qt.print l, 0) else ([], 7)
theorem qprint_any (l : List UInt8) (w : World) (hF : Forms w) (hl : l.length ≤ 1000000) :
    Calls Tryd.prog 13 #[.string (str l)] w fun e w' => e = .returned (.tuple #[.string (str (Qt.printed l).1), .int .i64 (Qt.printed l).2]) ∧ Below w.heap.size w w' := by
  unfold Qt.printed
  by_cases hv : Utf.valid l = true
  · rw [if_pos hv]; exact qprint_yes l w hF hl hv
  · rw [if_neg hv]; exact qprint_no l w hF hl (by simpa using hv)
end Go.Proofs.YtpoameaaoapiiaaDoor
