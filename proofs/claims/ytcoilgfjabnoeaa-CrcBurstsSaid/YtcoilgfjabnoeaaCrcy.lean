/- crc: Sealed, the document's Seal. -/
import Derived.Test.YtcoilgfjabnoeaaCrcx
namespace Go.Proofs.Ytcoilgfjabnoeaa
open Go.RowKit

/-- Are these bytes Crc.sealed ones? -/
def sealedB (l : List UInt8) : Bool := decide (4 ≤ l.length) && decide (Crc.sealed (l.take (l.length - 4)) = l)
/-- What stands ahead of the sum; of bytes that are not Crc.sealed: nothing. -/
def unsealed (l : List UInt8) : List UInt8 := if sealedB l then l.take (l.length - 4) else []

set_option maxHeartbeats 1000000 in
set_option maxRecDepth 100000 in
theorem sealed_any (l : List UInt8) (A : Option Addr) (n c : Nat) (w : World) (hb : Bs w A n c l) (hn : n ≤ 1000000) :
    Calls Try.prog 39 #[.slice A n c] w fun e w' => ∃ A2 k c2, e = .returned (.tuple #[.slice A2 k c2, .bool (sealedB l)]) ∧ Bs w' A2 k c2 (unsealed l) ∧ Below w.heap.size w w' := by
  have hl := hb.len
  by_cases h4 : n < 4
  · have hd : decide ((n : Int) - 4 < 0) = true := by simp; omega
    have HS : Hid (sealedB l = false) := by unfold Hid sealedB; rw [decide_eq_false (by omega)]; rfl
    clear hl
    go_enter Try.func39, Try.ntmps39
    go_wp2
    go_ret2
    refine ⟨none, 0, 0, by rw [HS.out]; rfl, ?_, Below.refl _ _⟩
    unfold unsealed
    rw [HS.out]
    exact Rd.nil _ _
  · have hd : decide ((n : Int) - 4 < 0) = false := by simp; omega
    have hcap := hb.2.1
    obtain ⟨k, rfl⟩ : ∃ k, n = k + 4 := ⟨n - 4, by omega⟩
    have hs1 : (((k + 4 : Nat) : Int) - 4) = (k : Int) := by omega
    have hbk : Bs w A k c (l.take k) := by
      have := Rd.upto hb (k := k) (by omega)
      rw [Nat.mul_one, bval_take] at this
      exact this
    have hl4 : l.length - 4 = k := by omega
    have HL := Lib.hid (And.intro hl hl4)
    clear hl hl4
    go_enter Try.func39, Try.ntmps39
    go_wp2_with fail
    refine (seal_any (l.take k) A k c w hbk (by omega)).mono ?_
    rintro e w1 ⟨A1, n1, c1, rfl, hown1, hB1⟩
    have hb1 := hb.below hB1
    have hbk1 := hbk.below hB1
    go_wp2_with fail
    refine (equal_any (Crc.sealed (l.take k)) l A1 A n1 c1 (k + 4) c w1 (own_bs hown1) hb1).mono ?_
    rintro e w2 ⟨rfl, q, rfl⟩
    by_cases heq : Crc.sealed (l.take k) = l
    · have HS : Hid (sealedB l = true) := by unfold Hid sealedB; rw [HL.out.2, decide_eq_true heq, decide_eq_true (by have := HL.out.1; omega)]; rfl
      have hde : decide (Crc.sealed (l.take k) = l) = true := decide_eq_true heq
      clear heq
      go_wp2_with fail
      refine (clone_any (l.take k) A k c (w1.drewN q) (hbk1.drewN q) (by omega)).mono ?_
      rintro e w2 ⟨A2, n2, c2, rfl, hown2, hB2⟩
      go_wp2
      go_ret2
      refine ⟨A2, n2, c2, by rw [HS.out]; rfl, ?_, hB1.trans ((below_drewN_self _ _ _).trans (hB2.mono hB1.size))⟩
      unfold unsealed
      rw [HS.out, HL.out.2]
      exact own_bs hown2
    · have HS : Hid (sealedB l = false) := by unfold Hid sealedB; rw [HL.out.2, decide_eq_false heq]; simp
      have hde : decide (Crc.sealed (l.take k) = l) = false := decide_eq_false heq
      clear heq
      go_wp2
      go_ret2
      refine ⟨none, 0, 0, by rw [HS.out]; rfl, ?_, hB1.trans (below_drewN_self _ _ _)⟩
      unfold unsealed
      rw [HS.out]
      exact Rd.nil _ _

end Go.Proofs.Ytcoilgfjabnoeaa
