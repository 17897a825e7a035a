/- crc: Seal, Sealed, the document's Seal. -/
import Derived.Test.YtcoilgfjabnoeaaCrcw
import Derived.Test.YtcoilgfjabnoeaaCrcq
import Derived.Test.YtcoilgfjabnoeaaSli
namespace Go.Proofs.Ytcoilgfjabnoeaa
open Go.RowKit

set_option maxHeartbeats 1000000 in
set_option maxRecDepth 100000 in
theorem seal_any (l : List UInt8) (A : Option Addr) (n c : Nat) (w : World) (hb : Bs w A n c l) (hn : n ≤ 1000000) :
    Calls Try.prog 26 #[.slice A n c] w (Owned w 5 (bval (Crc.sealed l))) := by
  have hl := hb.len
  have HL := Lib.hid hl
  clear hl
  go_enter Try.func26, Try.ntmps26
  go_wp2_with fail
  refine (clone_any l A n c w hb (by omega)).mono ?_
  rintro e w1 ⟨A1, n1, c1, rfl, hown1, hB1⟩
  obtain rfl : n1 = n := by have := own_len hown1; have := HL.out; omega
  have hb1 := hb.below hB1
  go_wp2_with fail
  refine (of_any l A n1 c w1 hb1).mono ?_
  rintro e w2 ⟨rfl, hB2⟩
  have hown2 := own_keep hown1 hB2
  have hB12 := hB1.trans (hB2.mono hB1.size)
  have hx := Crc.of_lt l
  have HP : Hid (l ++ Crc.leb 4 (Crc.of l) = Crc.sealed l) := rfl
  generalize Crc.of l = x at *
  clear hown1 hB1 hB2
  go_wp2
  go_loopw [3, 4, 9] (fun ov nv iv wr => ∃ (p : List UInt8) (y j : Nat) (A : Option Addr) (k c : Nat), ov = .slice A k c ∧ nv = .int .u32 y ∧ y < 4294967296 ∧ iv = .int .i64 (4 - (j : Int)) ∧ j ≤ 4 ∧ k + j = n1 + 4 ∧ Hid (p ++ Crc.leb j y = Crc.sealed l) ∧ wr.ownsRow w.heap.size 5 1 (.slice A k c) k (bval p) ∧ Below w.heap.size w wr) (fun _ _ iv _ => 4 - (intOf iv).toNat)
  case atStart => exact ⟨l, x, 4, A1, n1, c1, rfl, rfl, hx, rfl, by omega, rfl, HP, hown2, hB12⟩
  case round =>
    obtain ⟨p, y, j, A3, k, c3, rfl, rfl, hy, rfl, hj, hk, HQ, hown, hB⟩ := hrel
    rcases j with _ | j
    · go_wp2
      go_ret
      have h := HQ.out
      simp only [Crc.leb, List.append_nil] at h
      rw [← h]
      exact ⟨A3, k, c3, rfl, hown, hB⟩
    · have h := HQ.out
      have HQ2 : Hid ((p ++ [UInt8.ofNat (y % 256)]) ++ Crc.leb j (y / 256) = Crc.sealed l) := by rw [List.append_assoc]; exact h
      clear h HQ
      have hd : decide ((4 : Int) - ((j + 1 : Nat) : Int) < 4) = true := by simp; omega
      have hbo := fun w => bs_one w (y % 256) (by omega)
      have e1 : (((y % 256 : Nat)) : Int) = (y : Int) % 256 := by omega
      rw [e1] at hbo
      have HBO := Lib.hid hbo
      clear hbo
      go_wp2_with (first
        | (at_builtin
           refine wpList_app w rfl _ _ rfl w.heap.size p [UInt8.ofNat (y % 256)] _ _ _ (hown.alloc _) rfl _ _ _ (HBO.out _) rfl (by omega) (by have := hB.size; simp; omega) (hB.alloc hB.size _) _ rfl _ rfl ?_
           intro A4 c4 w4 hown4 hB4 _))
      go_roundw
      case rel => exact ⟨_, y / 256, j, A4, k + 1, c4, rfl, by go_num, by omega, by go_num, by omega, by omega, HQ2, hown4, hB4⟩
      case measure => simp [intOf]; omega
end Go.Proofs.Ytcoilgfjabnoeaa
