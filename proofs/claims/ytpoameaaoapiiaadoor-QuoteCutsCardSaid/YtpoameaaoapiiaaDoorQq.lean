/- Quoted texts in plain Lean: what is printed. No program in sight. -/
import Derived.Test.YtpoameaaoapiiaaDoorQpl
namespace Go.Proofs.YtpoameaaoapiiaaDoor.Qt

/-- The sign behind a backslash for a byte; 0: there is none. -/
def shortc (c : Nat) : Nat := if c = 34 then 34 else if c = 92 then 92 else if c = 8 then 98 else if c = 12 then 102 else if c = 10 then 110 else if c = 13 then 114 else if c = 9 then 116 else 0
/-- A small hexadecimal digit. -/
def hexd (n : Nat) : Nat := if n < 10 then 48 + n else 87 + n
/-- What is printed for a byte. -/
def pp (b : UInt8) : List UInt8 :=
  if shortc b.toNat ≠ 0 then [92, UInt8.ofNat (shortc b.toNat)]
  else if b.toNat < 32 then [92, 117, 48, 48, UInt8.ofNat (hexd (b.toNat / 16)), UInt8.ofNat (hexd (b.toNat % 16))]
  else [b]
/-- All bytes' prints. -/
def pps (l : List UInt8) : List UInt8 := l.flatMap pp
def print (l : List UInt8) : List UInt8 := 34 :: (pps l ++ [34])

theorem pp_len (b : UInt8) : 1 ≤ (pp b).length ∧ (pp b).length ≤ 6 := by unfold pp; split; · simp
                                                                         split <;> simp
theorem pps_append (a b : List UInt8) : pps (a ++ b) = pps a ++ pps b := by simp [pps]
theorem pps_len (l : List UInt8) : l.length ≤ (pps l).length ∧ (pps l).length ≤ 6 * l.length := by
  induction l with
  | nil => simp [pps]
  | cons b r ih =>
    have := pp_len b
    simp only [pps, List.flatMap_cons, List.length_append, List.length_cons] at ih ⊢
    omega
theorem take_next (l : List UInt8) (i : Nat) (h : i < l.length) : l.take (i + 1) = l.take i ++ [l[i]] := by
  rw [List.take_succ_eq_append_getElem h]
theorem pps_next (l : List UInt8) (i : Nat) (h : i < l.length) : pps (l.take (i + 1)) = pps (l.take i) ++ pp (UInt8.ofNat (bt l i)) := by
  rw [take_next l i h, pps_append, ← bt_eq h]
  simp [pps]
theorem pps_take_len (l : List UInt8) (i : Nat) : (pps (l.take i)).length ≤ 6 * i := by
  have := (pps_len (l.take i)).2
  rw [List.length_take] at this
  omega
theorem shortc_cases {c : Nat} (h : shortc c ≠ 0) : c = 34 ∨ c = 92 ∨ c = 8 ∨ c = 12 ∨ c = 10 ∨ c = 13 ∨ c = 9 := by
  unfold shortc at h
  repeat (split at h; · omega)
  omega
end Go.Proofs.YtpoameaaoapiiaaDoor.Qt
