/- tabulariumlaw02.same: are these the same scalars? -/
import Derived.Test.YtikelcbceoilpaaDoorUw5
import Derived.Laws.StructEq
namespace Go.Proofs.YtikelcbceoilpaaDoor
open Go.RowKit

theorem held_none : Tryd.prog.stoodInHeld 30 = false := by kernel_rfl
theorem guard_none : Tryd.prog.eqGuardType Tryd.prog.depth 30 = false := by kernel_rfl
theorem same_step {α : Type} {a b : List α} {k : Nat} (h : a.take k = b.take k) (ha : k < a.length) (hb : k < b.length) (e : a[k] = b[k]) : a.take (k + 1) = b.take (k + 1) := by
  rw [List.take_succ_eq_append_getElem ha, List.take_succ_eq_append_getElem hb, h, e]
theorem same_ne {α : Type} [DecidableEq α] {a b : List α} {k : Nat} (ha : k < a.length) (hb : k < b.length) (e : a[k] ≠ b[k]) : decide (a = b) = false := by
  simp only [decide_eq_false_iff_not]
  rintro rfl
  exact e rfl
theorem Rd2.len {w : World} {A : Option Addr} {n c : Nat} {l : List (Nat × Nat)} (h : Rd w 2 A n c (sval l)) : n = l.length := by have h1 := h.1; rw [sval_length] at h1; omega
set_option maxRecDepth 100000 in
set_option maxHeartbeats 400000 in
theorem same_any (a b : List (Nat × Nat)) (A B : Option Addr) (n c m d : Nat) (w : World) (ha : Rd w 2 A n c (sval a)) (hb : Rd w 2 B m d (sval b)) :
    Calls Tryd.prog 10 #[.slice A n c, .slice B m d] w fun e w' => e = .returned (.bool (decide (a = b))) ∧ Below w.heap.size w w' := by
  have hla := Rd2.len ha
  have hlb := Rd2.len hb
  have hmax := Rd.max ha
  have HA := Lib.hid hla
  have HB := Lib.hid hlb
  by_cases hnm : n = m
  · have hc : ((n : Int) != (m : Int)) = false := by simp; omega
    have hnm1 : n ≤ m := by omega
    have HM := Lib.hid hnm
    clear hnm hla hlb
    have hh := held_none
    have hgu := guard_none
    go_enter Tryd.func10, Tryd.ntmps10
    go_wp2
    go_loopw [13] (fun i wr => ∃ k : Nat, k ≤ n ∧ i = .int .i64 k ∧ Hid (a.take k = b.take k) ∧ ∃ q, wr = w.drewN q) (fun i _ => n - (intOf i).toNat)
    case atStart => exact ⟨0, Nat.zero_le _, rfl, rfl, 0, rfl⟩
    case round =>
      obtain ⟨k, hk, rfl, HT, q, rfl⟩ := hrel
      by_cases hlt : k < n
      · obtain ⟨ad, rfl⟩ := Rd.addr ha (by omega)
        obtain ⟨bd, rfl⟩ := Rd.addr hb (by omega)
        have hka : k < a.length := by have := HA.out; omega
        have hkb : k < b.length := by have := HB.out; have := HM.out; omega
        have hca1 : w.cell? (ad.add (k * 2)) = some (.int .i64 (a[k].1 : Int)) := Rd.cell ha (sval_get hka).1
        have hca2 : w.cell? (ad.add (k * 2 + 1)) = some (.int .i64 (a[k].2 : Int)) := Rd.cell ha (sval_get hka).2
        have hcb1 : w.cell? (bd.add (k * 2)) = some (.int .i64 (b[k].1 : Int)) := Rd.cell hb (sval_get hkb).1
        have hcb2 : w.cell? (bd.add (k * 2 + 1)) = some (.int .i64 (b[k].2 : Int)) := Rd.cell hb (sval_get hkb).2
        have hca3 : w.cell? ⟨(ad.add (k * 2)).block, (ad.add (k * 2)).off + 1, none⟩ = some (.int .i64 (a[k].2 : Int)) := by rw [← add_of_add] at hca2; exact hca2
        have hcb3 : w.cell? ⟨(bd.add (k * 2)).block, (bd.add (k * 2)).off + 1, none⟩ = some (.int .i64 (b[k].2 : Int)) := by rw [← add_of_add] at hcb2; exact hcb2
        have hkm : k < m := by omega
        obtain ⟨x1, hx1⟩ : ∃ x, x = a[k].1 := ⟨_, rfl⟩
        obtain ⟨y1, hy1⟩ : ∃ x, x = a[k].2 := ⟨_, rfl⟩
        obtain ⟨x2, hx2⟩ : ∃ x, x = b[k].1 := ⟨_, rfl⟩
        obtain ⟨y2, hy2⟩ : ∃ x, x = b[k].2 := ⟨_, rfl⟩
        rw [← hx1] at hca1
        rw [← hy1] at hca2 hca3
        rw [← hx2] at hcb1
        rw [← hy2] at hcb2 hcb3
        have HX := Lib.hid (And.intro (And.intro hx1 hy1) (And.intro hx2 hy2))
        clear hx1 hy1 hx2 hy2
        by_cases hx : x1 = x2
        · by_cases hy : y1 = y2
          · have heq : a[k] = b[k] := by
              obtain ⟨⟨e1, e2⟩, e3, e4⟩ := HX.out
              exact Prod.ext (by rw [← e1, ← e3, hx]) (by rw [← e2, ← e4, hy])
            have HE := Lib.hid heq
            clear heq HX
            subst hx hy
            go_wp2
            go_quiet (fail)
            go_wp2
            go_roundw
            case rel => exact ⟨k + 1, by omega, by go_num, same_step HT.out hka hkb HE.out, _, rfl⟩
            case measure => simp [intOf]; omega
          · have hyb : ((y1 : Int) == (y2 : Int)) = false := by simp; omega
            have hne : decide (a = b) = false := same_ne hka hkb (fun e => by
              obtain ⟨⟨e1, e2⟩, e3, e4⟩ := HX.out
              exact hy (by rw [e2, e4, e]))
            have HE := Lib.hid hne
            clear hne HX
            subst hx
            go_wp2
            go_quiet (fail)
            go_wp2
            go_ret
            exact ⟨by rw [HE.out]; rfl, below_drewN (below_drewN_self _ _ _) _⟩
        · have hxb : ((x1 : Int) == (x2 : Int)) = false := by simp; omega
          have hne : decide (a = b) = false := same_ne hka hkb (fun e => by
            obtain ⟨⟨e1, e2⟩, e3, e4⟩ := HX.out
            exact hx (by rw [e1, e3, e]))
          have HE := Lib.hid hne
          clear hne HX
          go_wp2
          go_quiet (fail)
          go_wp2
          go_ret
          exact ⟨by rw [HE.out]; rfl, below_drewN (below_drewN_self _ _ _) _⟩
      · have hke : Hid (k = n) := by unfold Hid; omega
        go_wp2
        go_ret
        refine ⟨?_, below_drewN_self _ _ _⟩
        have h1 := HT.out
        rw [List.take_of_length_le (by rw [← HA.out, hke.out]; exact Nat.le_refl _), List.take_of_length_le (by rw [← HB.out, ← HM.out, hke.out]; exact Nat.le_refl _)] at h1
        rw [decide_eq_true h1]
        rfl
  · have hc : ((n : Int) != (m : Int)) = true := by rw [bne_iff_ne]; omega
    have hd : decide (a = b) = false := by
      simp only [decide_eq_false_iff_not]
      rintro rfl
      exact hnm (by rw [hla, hlb])
    have HD := Lib.hid hd
    clear hd hla hlb hnm
    go_enter Tryd.func10, Tryd.ntmps10
    go_wp2
    go_ret
    exact ⟨by rw [HD.out]; rfl, Below.refl _ _⟩
end Go.Proofs.YtikelcbceoilpaaDoor
