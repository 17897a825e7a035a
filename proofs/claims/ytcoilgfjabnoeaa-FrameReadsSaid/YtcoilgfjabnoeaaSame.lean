/- tabulariumref03.Same: are two slices of bytes the same? -/
import Derived.Test.YtcoilgfjabnoeaaChecked
import Derived.Test.YtcoilgfjabnoeaaBase
namespace Go.Proofs.Ytcoilgfjabnoeaa
open Go.RowKit

theorem take_eq_get {a b : List UInt8} {k : Nat} (h : a.take k = b.take k) (ha : k < a.length) (hb : k < b.length) (hk : a[k].toNat = b[k].toNat) : a.take (k + 1) = b.take (k + 1) := by
  rw [List.take_succ_eq_append_getElem ha, List.take_succ_eq_append_getElem hb, h, UInt8.toNat_inj.1 hk]
theorem same_ne {a b : List UInt8} {k : Nat} (ha : k < a.length) (hb : k < b.length) (hk : a[k].toNat ≠ b[k].toNat) : decide (a = b) = false := by
  simp only [decide_eq_false_iff_not]
  rintro rfl
  exact hk rfl

set_option maxHeartbeats 400000 in
theorem same_any (a b : List UInt8) (A B : Option Addr) (n c m d : Nat) (w : World) (ha : Bs w A n c a) (hb : Bs w B m d b) :
    Calls Try.prog 23 #[.slice A n c, .slice B m d] w fun e w' => e = .returned (.bool (decide (a = b))) ∧ ∃ k, w' = w.drewN k := by
  have hla := ha.len
  have hlb := hb.len
  by_cases hnm : n = m
  · have hmax := ha.max
    have hc : ((n : Int) != m) = false := by simp [hnm]
    go_enter Try.func23, Try.ntmps23
    go_wp2
    go_loopw [5] (fun i wr => ∃ k : Nat, k ≤ n ∧ i = .int .i64 k ∧ Hid (a.take k = b.take k) ∧ ∃ q, wr = w.drewN q) (fun i _ => n - (intOf i).toNat)
    case atStart => exact ⟨0, Nat.zero_le _, rfl, rfl, 0, rfl⟩
    case round =>
      obtain ⟨k, hk, rfl, HT, q, rfl⟩ := hrel
      by_cases hlt : k < n
      · obtain ⟨ad, rfl⟩ := ha.addr (by omega)
        obtain ⟨bd, rfl⟩ := hb.addr (by omega)
        have hca : w.cell? (ad.add k) = some (.int .u8 (a[k].toNat : Int)) := ha.cell (by omega)
        have hcb : w.cell? (bd.add k) = some (.int .u8 (b[k].toNat : Int)) := hb.cell (by omega)
        go_wp2
        go_quiet (fail)
        go_wp2
        · go_ret
          have hne : ((a[k].toNat : Int) != b[k].toNat) = true := by assumption
          refine ⟨?_, q + nq, World.drewN_drewN _ _ _⟩
          rw [same_ne (k := k) (by omega) (by omega) (by have h := hne; simp at h; omega)]
          rfl
        · have heq : ((a[k].toNat : Int) != b[k].toNat) = false := by assumption
          go_roundw
          case rel => exact ⟨k + 1, by omega, by go_num, take_eq_get HT.out (by omega) (by omega) (by have h := heq; simp at h; omega), _, rfl⟩
          case measure => simp [intOf]; omega
      · have hke : Hid (k = n) := by unfold Hid; omega
        go_wp2
        go_ret
        refine ⟨?_, q, rfl⟩
        have h1 := HT.out
        have h2 := hke.out
        rw [List.take_of_length_le (by omega), List.take_of_length_le (by omega)] at h1
        simp [h1]
  · have hc : ((n : Int) != m) = true := by rw [bne_iff_ne]; omega
    have hd : decide (a = b) = false := by simp only [decide_eq_false_iff_not]; rintro rfl; omega
    clear hnm
    have HD := Lib.hid hd
    have HA := Lib.hid hla
    have HB := Lib.hid hlb
    clear hd hla hlb
    go_enter Try.func23, Try.ntmps23
    go_wp2
    go_ret
    exact ⟨by rw [HD.out]; rfl, 0, rfl⟩
end Go.Proofs.Ytcoilgfjabnoeaa
