/- crc: the document's Seal. -/
import Derived.Test.YtcoilgfjabnoeaaCrcx
namespace Go.Proofs.Ytcoilgfjabnoeaa
open Go.RowKit

theorem bs_four (w : World) (a b c d : Nat) (ha : a < 256) (hb : b < 256) (hc : c < 256) (hd : d < 256) :
    Bs (w.alloc (.cells #[.int .u8 (a : Int), .int .u8 (b : Int), .int .u8 (c : Int), .int .u8 (d : Int)] 5)) (some ⟨w.heap.size, 0, none⟩) 4 4 [UInt8.ofNat a, UInt8.ofNat b, UInt8.ofNat c, UInt8.ofNat d] := by
  have := Rd.new w 5 [.int .u8 (a : Int), .int .u8 (b : Int), .int .u8 (c : Int), .int .u8 (d : Int)] (by simp [maxLen])
  unfold Bs bval
  have e : ∀ c : Nat, c < 256 → ((UInt8.ofNat c).toNat : Int) = c := fun c hc => by simp; omega
  simp only [List.map_cons, List.map_nil, e _ ha, e _ hb, e _ hc, e _ hd]
  exact this
theorem leb_four (x : Nat) (h : x < 4294967296) : Crc.leb 4 x = [UInt8.ofNat (x % 256), UInt8.ofNat (x / 256 % 256), UInt8.ofNat (x / 65536 % 256), UInt8.ofNat (x / 16777216)] := by
  have e1 : x / 256 / 256 = x / 65536 := by omega
  have e2 : x / 256 / 256 / 256 = x / 16777216 := by omega
  have e3 : x / 16777216 % 256 = x / 16777216 := by omega
  unfold Crc.leb Crc.leb Crc.leb Crc.leb Crc.leb
  rw [e2, e1, e3]

set_option maxHeartbeats 1000000 in
set_option maxRecDepth 100000 in
theorem refseal_any (l : List UInt8) (A : Option Addr) (n c : Nat) (w : World) (hb : Bs w A n c l) (hn : n ≤ 1000000) :
    Calls Try.prog 40 #[.slice A n c] w (Owned w 5 (bval (Crc.sealed l))) := by
  have hl := hb.len
  have HL := Lib.hid hl
  clear hl
  go_enter Try.func40, Try.ntmps40
  go_wp2_with fail
  refine (refof_of l A n c w hb).mono ?_
  rintro e w1 ⟨rfl, rfl⟩
  have hx := Crc.of_lt l
  have HP : Hid (l ++ Crc.leb 4 (Crc.of l) = Crc.sealed l) := rfl
  generalize Crc.of l = x at *
  have hbo := fun w => bs_four w (x % 256) (x / 256 % 256) (x / 65536 % 256) (x / 16777216) (by omega) (by omega) (by omega) (by omega)
  rw [← leb_four x hx] at hbo
  have q0 : ((x % 256 : Nat) : Int) = (x : Int) % 256 := by omega
  have q1 : ((x / 256 % 256 : Nat) : Int) = (x : Int) / 256 % 256 := by omega
  have q2 : ((x / 65536 % 256 : Nat) : Int) = (x : Int) / 65536 % 256 := by omega
  have q3 : ((x / 16777216 : Nat) : Int) = (x : Int) / 16777216 := by omega
  rw [q0, q1, q2, q3] at hbo
  have HBO := Lib.hid hbo
  clear hbo q0 q1 q2 q3
  go_wp2_with (first
    | (at_builtin
       refine wpList_app (o := ⟨some 9, _, _, _, _, _⟩) w rfl _ _ rfl w.heap.size [] l _ _ _ (own_nil w _) rfl _ _ _ hb rfl (by omega) (Nat.le_refl _) (Below.refl _ _) n (by omega) l rfl ?_
       intro A2 c2 w2 hown2 hb2 _)
    | (at_builtin
       refine wpList_app (o := ⟨some 26, _, _, _, _, _⟩) w rfl _ _ rfl w.heap.size l (Crc.leb 4 x) _ _ _ (hown2.alloc _) rfl _ _ _ (HBO.out _) rfl (by omega) (hb2.alloc hb2.size _).size (hb2.alloc hb2.size _) _ rfl _ rfl ?_
       intro A3 c3 w3 hown3 hb3 _))
  go_ret
  exact ⟨A3, n + 4, c3, rfl, by rw [← HP.out]; exact hown3, hb3⟩
end Go.Proofs.Ytcoilgfjabnoeaa
