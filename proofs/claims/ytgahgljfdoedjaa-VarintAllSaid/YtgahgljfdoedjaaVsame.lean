/- tabulariumlaw04.same: are numbers the first so many of others? -/
import Derived.Test.YtgahgljfdoedjaaVrest
namespace Go.Proofs.Ytgahgljfdoedjaa
open Go.RowKit

theorem nval_get {k : IntKind} {l : List Nat} {i : Nat} (h : i < l.length) : (nval k l)[i]? = some (.int k (l[i] : Int)) := by simp [nval, h]
theorem vsame_step {a b : List Nat} {k most : Nat} (h : a.take k = (b.take most).take k) (ha : k < a.length) (hb : k < b.length) (hm : k < most) (e : a[k] = b[k]) : a.take (k + 1) = (b.take most).take (k + 1) := by
  have hb2 : k < (b.take most).length := by simp; omega
  rw [List.take_succ_eq_append_getElem ha, List.take_succ_eq_append_getElem hb2, h]
  simp [e]
theorem vsame_ne {a b : List Nat} {k most : Nat} (ha : k < a.length) (hb : k < b.length) (hm : k < most) (e : a[k] ≠ b[k]) : decide (a = b.take most) = false := by
  simp only [decide_eq_false_iff_not]
  intro h
  have h1 : a[k]? = (b.take most)[k]? := by rw [h]
  rw [List.getElem?_take, if_pos hm, List.getElem?_eq_getElem ha, List.getElem?_eq_getElem hb] at h1
  exact e (Option.some.inj h1)

set_option maxRecDepth 100000 in
set_option maxHeartbeats 400000 in
theorem vsame_any (a b : List Nat) (A B : Option Addr) (n c m d most : Nat) (w : World) (ha : Rd w 1 A n c (nval .u64 a)) (hb : Rd w 1 B m d (nval .u64 b)) (hmost : most ≤ 100000) :
    Calls Try.prog 15 #[.slice A n c, .slice B m d, .int .i64 most] w fun e w' => e = .returned (.bool (decide (a = b.take most))) ∧ ∃ k, w' = w.drewN k := by
  have hla : n = a.length := by have := Rd.len ha; simpa [nval] using this
  have hlb : m = b.length := by have := Rd.len hb; simpa [nval] using this
  have hmax := Rd.max ha
  have HA := Lib.hid hla
  have HB := Lib.hid hlb
  by_cases hnm : n = min m most
  · have hc : ((n : Int) != min (m : Int) most) = false := by simp; omega
    have hnm1 : n ≤ m := by omega
    have hnm2 : n ≤ most := by omega
    have hfull : b.take most = b.take n := by
      rw [hnm]
      rcases Nat.le_total m most with h | h
      · rw [Nat.min_eq_left h, List.take_of_length_le (by omega), List.take_of_length_le (by omega)]
      · rw [Nat.min_eq_right h]
    have HF := Lib.hid hfull
    clear hnm hla hlb hfull
    go_enter Try.func15, Try.ntmps15
    go_wp2
    go_loopw [17] (fun i wr => ∃ k : Nat, k ≤ n ∧ i = .int .i64 k ∧ Hid (a.take k = (b.take most).take k) ∧ ∃ q, wr = w.drewN q) (fun i _ => n - (intOf i).toNat)
    case atStart => exact ⟨0, Nat.zero_le _, rfl, rfl, 0, rfl⟩
    case round =>
      obtain ⟨k, hk, rfl, HT, q, rfl⟩ := hrel
      by_cases hlt : k < n
      · obtain ⟨ad, rfl⟩ := Rd.addr ha (by omega)
        obtain ⟨bd, rfl⟩ := Rd.addr hb (by omega)
        have hka : k < a.length := by have := HA.out; omega
        have hkb : k < b.length := by have := HB.out; omega
        have hca : w.cell? (ad.add k) = some (.int .u64 (a[k] : Int)) := Rd.cell ha (nval_get hka)
        have hcb : w.cell? (bd.add k) = some (.int .u64 (b[k] : Int)) := Rd.cell hb (nval_get hkb)
        have hkm : k < m := by omega
        go_wp2
        go_quiet (fail)
        go_wp2
        · go_ret
          have hne : ((a[k] : Int) != b[k]) = true := by assumption
          refine ⟨?_, q + nq, World.drewN_drewN _ _ _⟩
          rw [vsame_ne (k := k) hka hkb (by omega) (by have h := hne; simp at h; omega)]
          rfl
        · have heq : ((a[k] : Int) != b[k]) = false := by assumption
          go_roundw
          case rel => exact ⟨k + 1, by omega, by go_num, vsame_step HT.out hka hkb (by omega) (by have h := heq; simp at h; omega), _, rfl⟩
          case measure => simp [intOf]; omega
      · have hke : Hid (k = n) := by unfold Hid; omega
        go_wp2
        go_ret
        refine ⟨?_, q, rfl⟩
        have h1 := HT.out
        have h2 := hke.out
        have h3 := HA.out
        rw [List.take_of_length_le (by omega), HF.out, h2, List.take_take, Nat.min_self] at h1
        have h4 : decide (a = b.take most) = true := by simp only [decide_eq_true_eq]; rw [HF.out, ← h1]
        rw [h4]
        rfl
  · have hc : ((n : Int) != min (m : Int) most) = true := by rw [bne_iff_ne]; omega
    have hd : decide (a = b.take most) = false := by
      simp only [decide_eq_false_iff_not]
      intro e
      apply hnm
      rw [hla, e, List.length_take, hlb, Nat.min_comm]
    have HD := Lib.hid hd
    clear hd hla hlb hnm
    go_enter Try.func15, Try.ntmps15
    go_wp2
    go_ret
    exact ⟨by rw [HD.out]; rfl, 0, rfl⟩
end Go.Proofs.Ytgahgljfdoedjaa
