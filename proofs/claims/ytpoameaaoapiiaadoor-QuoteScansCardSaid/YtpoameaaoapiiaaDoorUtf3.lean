/- UTF-8 in plain Lean: how the program reads a scalar. -/
import Derived.Test.YtpoameaaoapiiaaDoorUtf
import Derived.Test.YtpoameaaoapiiaaDoorUw1
namespace Go.Proofs.YtpoameaaoapiiaaDoor.Utf

theorem cont_low {x : UInt8} (h : cont x = true) : x.toNat % 64 = x.toNat - 128 := by have := cont_iff.1 h; omega
theorem next_one {b : UInt8} {r : List UInt8} (h : b.toNat < 128) : next (b :: r) = (b.toNat, 1) := by simp only [next, if_pos h]
theorem next_not {b : UInt8} {r : List UInt8} (h : firstOk b.toNat = false) : next (b :: r) = (0, 0) := by
  simp only [firstOk, decide_eq_false_iff_not] at h
  simp only [next]
  rw [if_neg (by omega)]
  by_cases h1 : b.toNat < 192
  · rw [if_pos h1]
  · rw [if_neg h1, if_neg (by omega), if_neg (by omega), if_neg (by omega)]
theorem next_short {b : UInt8} {r : List UInt8} (h : r.length < firstK b.toNat) : next (b :: r) = (0, 0) := by
  unfold firstK at h
  simp only [next]
  split at h
  · rw [if_neg (by omega), if_neg (by omega), if_neg (by omega), if_neg (by omega), if_pos (by omega)]
    match r, h with
    | [], _ => rfl
    | [_], _ => rfl
    | [_, _], _ => rfl
    | _ :: _ :: _ :: _, h => simp at h; omega
  · split at h
    · rw [if_neg (by omega), if_neg (by omega), if_neg (by omega), if_pos (by omega)]
      match r, h with
      | [], _ => rfl
      | [_], _ => rfl
      | _ :: _ :: _, h => simp at h; omega
    · split at h
      · rw [if_neg (by omega), if_neg (by omega), if_pos (by omega)]
        match r, h with
        | [], _ => rfl
        | _ :: _, h => simp at h
      · omega
theorem next_two {b x : UInt8} {r : List UInt8} (hb : 192 ≤ b.toNat ∧ b.toNat < 224) :
    next (b :: x :: r) = if cont x = true ∧ 128 ≤ (b.toNat - 192) * 64 + x.toNat % 64 ∧ scalar ((b.toNat - 192) * 64 + x.toNat % 64) = true then ((b.toNat - 192) * 64 + x.toNat % 64, 2) else (0, 0) := by
  simp only [next]
  rw [if_neg (by omega), if_neg (by omega), if_pos (by omega)]
  by_cases hc : cont x = true
  · have e := cont_low hc
    have hs : scalar ((b.toNat - 192) * 64 + x.toNat % 64) = true := scalar_iff.2 (by omega)
    rw [← e]
    simp only [hc, hs, true_and, and_true]
  · rw [if_neg (fun h => hc h.1), if_neg (fun h => hc h.1)]
theorem next_three {b x y : UInt8} {r : List UInt8} (hb : 224 ≤ b.toNat ∧ b.toNat < 240) :
    next (b :: x :: y :: r) = if cont x = true ∧ cont y = true ∧ 2048 ≤ ((b.toNat - 224) * 64 + x.toNat % 64) * 64 + y.toNat % 64 ∧ scalar (((b.toNat - 224) * 64 + x.toNat % 64) * 64 + y.toNat % 64) = true then (((b.toNat - 224) * 64 + x.toNat % 64) * 64 + y.toNat % 64, 3) else (0, 0) := by
  simp only [next]
  rw [if_neg (by omega), if_neg (by omega), if_neg (by omega), if_pos (by omega)]
  by_cases hc : cont x = true
  · by_cases hd : cont y = true
    · have e := cont_low hc
      have f := cont_low hd
      have g : ((b.toNat - 224) * 64 + x.toNat % 64) * 64 + y.toNat % 64 = (b.toNat - 224) * 4096 + (x.toNat - 128) * 64 + (y.toNat - 128) := by omega
      rw [g]
    · rw [if_neg (fun h => hd h.2.1), if_neg (fun h => hd h.2.1)]
  · rw [if_neg (fun h => hc h.1), if_neg (fun h => hc h.1)]
theorem next_four {b x y z : UInt8} {r : List UInt8} (hb : 240 ≤ b.toNat ∧ b.toNat < 248) :
    next (b :: x :: y :: z :: r) = if cont x = true ∧ cont y = true ∧ cont z = true ∧ 65536 ≤ (((b.toNat - 240) * 64 + x.toNat % 64) * 64 + y.toNat % 64) * 64 + z.toNat % 64 ∧ scalar ((((b.toNat - 240) * 64 + x.toNat % 64) * 64 + y.toNat % 64) * 64 + z.toNat % 64) = true then ((((b.toNat - 240) * 64 + x.toNat % 64) * 64 + y.toNat % 64) * 64 + z.toNat % 64, 4) else (0, 0) := by
  simp only [next]
  rw [if_neg (by omega), if_neg (by omega), if_neg (by omega), if_neg (by omega), if_pos (by omega)]
  by_cases hc : cont x = true
  · by_cases hd : cont y = true
    · by_cases he : cont z = true
      · have e := cont_low hc
        have f := cont_low hd
        have k := cont_low he
        have g : (((b.toNat - 240) * 64 + x.toNat % 64) * 64 + y.toNat % 64) * 64 + z.toNat % 64 = (b.toNat - 240) * 262144 + (x.toNat - 128) * 4096 + (y.toNat - 128) * 64 + (z.toNat - 128) := by omega
        rw [g]
      · rw [if_neg (fun h => he h.2.2.1), if_neg (fun h => he h.2.2.1)]
    · rw [if_neg (fun h => hd h.2.1), if_neg (fun h => hd h.2.1)]
  · rw [if_neg (fun h => hc h.1), if_neg (fun h => hc h.1)]
end Go.Proofs.YtpoameaaoapiiaaDoor.Utf
