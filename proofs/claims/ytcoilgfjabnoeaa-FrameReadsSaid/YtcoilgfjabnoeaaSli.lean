/- slices.Clone, slices.Equal at bytes. -/
import Derived.Test.YtcoilgfjabnoeaaApp
import Derived.Test.YtcoilgfjabnoeaaSame
namespace Go.Proofs.Ytcoilgfjabnoeaa
open Go.RowKit

set_option maxRecDepth 100000 in
set_option maxHeartbeats 400000 in
theorem clone_any (l : List UInt8) (A : Option Addr) (n c : Nat) (w : World) (hb : Bs w A n c l) (hn : n ≤ 140737488355328) :
    Calls Try.prog 45 #[.slice A n c] w (Owned w 5 (bval l)) := by
  have hl := hb.len
  have HL := Lib.hid hl
  clear hl
  rcases A with _ | ad
  · have hn0 : n = 0 := by
      rcases Nat.eq_zero_or_pos n with h | h
      · exact h
      · obtain ⟨ad, h2⟩ := hb.addr h; cases h2
    have HN := Lib.hid hn0
    clear hn0
    have hnil := fun (w : World) => Lib.run_eql_slice_nil (P := Try.prog) w 22 5 none n c 0 0 Try.underlying22
    go_enter Try.func45, Try.ntmps45
    go_wp2
    go_ret
    have hl0 : l = [] := List.eq_nil_of_length_eq_zero (by have := HN.out; have := HL.out; omega)
    subst hl0
    exact ⟨none, 0, 0, rfl, own_nil _ _, Below.refl _ _⟩
  · have hnil := fun (w : World) => Lib.run_eql_slice_nil (P := Try.prog) w 22 5 (some ad) n c 0 0 Try.underlying22
    go_enter Try.func45, Try.ntmps45
    go_wp2_with (first
      | (at_builtin
         refine wpList_app w rfl _ _ rfl w.heap.size [] l _ _ _ (own_empty w _ (Nat.le_refl _)) rfl _ _ _ (hb.alloc _) rfl (by omega) (by simp) ((Below.refl _ _).alloc (Nat.le_refl _) _) n (by omega) l rfl ?_
         intro A2 c2 w2 hown2 hb2 _))
    go_ret
    exact ⟨A2, n, c2, rfl, hown2, hb2⟩

set_option maxHeartbeats 400000 in
theorem equal_any (a b : List UInt8) (A B : Option Addr) (n c m d : Nat) (w : World) (ha : Bs w A n c a) (hb : Bs w B m d b) :
    Calls Try.prog 50 #[.slice A n c, .slice B m d] w fun e w' => e = .returned (.bool (decide (a = b))) ∧ ∃ k, w' = w.drewN k := by
  have hla := ha.len
  have hlb := hb.len
  by_cases hnm : n = m
  · have hmax := ha.max
    have hc : ((n : Int) != m) = false := by simp [hnm]
    go_enter Try.func50, Try.ntmps50
    go_wp2
    go_loopw [13] (fun i wr => ∃ k : Nat, k ≤ n ∧ i = .int .i64 k ∧ Hid (a.take k = b.take k) ∧ ∃ q, wr = w.drewN q) (fun i _ => n - (intOf i).toNat)
    case atStart => exact ⟨0, Nat.zero_le _, rfl, rfl, 0, rfl⟩
    case round =>
      obtain ⟨k, hk, rfl, HT, q, rfl⟩ := hrel
      by_cases hlt : k < n
      · obtain ⟨ad, rfl⟩ := ha.addr (by omega)
        obtain ⟨bd, rfl⟩ := hb.addr (by omega)
        have hca : w.cell? (ad.add k) = some (.int .u8 (a[k].toNat : Int)) := ha.cell (by omega)
        have hcb : w.cell? (bd.add k) = some (.int .u8 (b[k].toNat : Int)) := hb.cell (by omega)
        go_wp2
        go_quiet (fail)
        go_wp2
        · go_ret
          have hne : ((a[k].toNat : Int) != b[k].toNat) = true := by assumption
          refine ⟨?_, q + nq, World.drewN_drewN _ _ _⟩
          rw [same_ne (k := k) (by omega) (by omega) (by have h := hne; simp at h; omega)]
          rfl
        · have heq : ((a[k].toNat : Int) != b[k].toNat) = false := by assumption
          go_roundw
          case rel => exact ⟨k + 1, by omega, by go_num, take_eq_get HT.out (by omega) (by omega) (by have h := heq; simp at h; omega), _, rfl⟩
          case measure => simp [intOf]; omega
      · have hke : Hid (k = n) := by unfold Hid; omega
        go_wp2
        go_ret
        refine ⟨?_, q, rfl⟩
        have h1 := HT.out
        have h2 := hke.out
        rw [List.take_of_length_le (by omega), List.take_of_length_le (by omega)] at h1
        simp [h1]
  · have hc : ((n : Int) != m) = true := by rw [bne_iff_ne]; omega
    have hd : decide (a = b) = false := by simp only [decide_eq_false_iff_not]; rintro rfl; omega
    clear hnm
    have HD := Lib.hid hd
    have HA := Lib.hid hla
    have HB := Lib.hid hlb
    clear hd hla hlb
    go_enter Try.func50, Try.ntmps50
    go_wp2
    go_ret
    exact ⟨by rw [HD.out]; rfl, 0, rfl⟩
end Go.Proofs.Ytcoilgfjabnoeaa
