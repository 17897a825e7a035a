/- tabulariumref07: part. -/
import Derived.Test.YtpoameaaoapiiaaDoorQs
namespace Go.Proofs.YtpoameaaoapiiaaDoor
open Go.RowKit

theorem Qt.mean_cases {c : Nat} (h : Qt.mean c ≠ 0) : c = 34 ∨ c = 92 ∨ c = 47 ∨ c = 98 ∨ c = 102 ∨ c = 110 ∨ c = 114 ∨ c = 116 := by
  unfold Qt.mean at h
  repeat (split at h; · omega)
  omega

set_option maxHeartbeats 4000000 in
set_option maxRecDepth 1000000 in
theorem rqpart_esc (l : List UInt8) (p c : Nat) (w : World) (hp : p + 1 < l.length) (hl : l.length ≤ 1000000000) (h92 : Qt.bt l p = 92) (hc : c = Qt.bt l (p + 1)) (hm : Qt.mean c ≠ 0) :
    Calls Tryd.prog 22 #[.string (str l), .int .i64 p] w fun e w' => e = .returned (ptv ⟨[UInt8.ofNat (Qt.mean c)], 2, 0⟩) ∧ Below w.heap.size w w' := by
  have hix : nth l p = 92 := by show ((Qt.bt l p : Nat) : Int) = 92; rw [h92]; rfl
  have hix2 : nth l (p + 1) = (c : Int) := by rw [hc]; rfl
  have e1 : 0 ≤ (p : Int) ∧ (p : Int) < l.length := by omega
  have e2 : 0 ≤ (p : Int) + 1 ∧ (p : Int) + 1 < l.length := by omega
  have e3 : ((p : Int) + 1).toNat = p + 1 := by omega
  have d1 : decide (l.length ≤ p) = false := by simp; omega
  have d2 : decide ((l.length : Int) ≤ (p : Int) + 1) = false := by simp; omega
  have hw1 : IntKind.i64.wrap ((p : Int) + 1) = (p : Int) + 1 := IntWalk.i64_in _ (by omega)
  have hw2 : IntKind.i64.wrap ((p : Int) + 2) = (p : Int) + 2 := IntWalk.i64_in _ (by omega)
  have hsl : ∀ W : World, (Instr.slice 9 (.string (str l)) (some (.int .i64 ((p : Int) + 1))) (some (.int .i64 ((p : Int) + 2))) none).run Tryd.prog W = .ok (.string (str [UInt8.ofNat c])) W := fun W => by
    have h1 := run_slice_str W 9 l .i64 .i64 ((p : Int) + 1) ((p : Int) + 2) Tryd.underlying9 (by omega)
    rw [e3, show ((p : Int) + 2).toNat - (p + 1) = 1 by omega] at h1
    have h2 : (l.drop (p + 1)).take 1 = [UInt8.ofNat c] := by
      have h3 : UInt8.ofNat c = l[p + 1] := by rw [hc, ← Qt.bt_eq hp]; simp
      rw [List.drop_eq_getElem_cons hp, h3]; rfl
    rw [h2] at h1
    exact h1
  have HS := Lib.hid hsl
  clear h92 hc hsl
  go_enter Tryd.func22, Tryd.ntmps22
  rcases Qt.mean_cases hm with rfl | rfl | rfl | rfl | rfl | rfl | rfl | rfl
  all_goals
    clear hm
    have hsl := HS.out
    clear HS
    go_wp2
    refine bodyPost_ret (v := ptv ⟨[UInt8.ofNat (Qt.mean _)], 2, 0⟩) (by simp [results, Tryd.results22, go_sem] <;> rfl) rfl ⟨rfl, ?_⟩
    (repeat' (first | (with_reducible exact Below.refl _ _) | (with_reducible assumption) | (with_reducible refine below_later' ?_ ?_ _ _) | (with_reducible refine Below.alloc ?_ ?_ _) | (with_reducible refine Below.setCell ?_ ?_ _) | (with_reducible refine Below.drew ?_) | (with_reducible refine below_drewN ?_ _) | (with_reducible exact Nat.le_refl _) | omega | (simp; done) | (simp; omega)))

set_option maxHeartbeats 4000000 in
set_option maxRecDepth 1000000 in
theorem rqpart_plain (l : List UInt8) (p n c : Nat) (w : World) (hp : p < l.length) (hl : l.length ≤ 1000000000) (h32 : ¬ Qt.bt l p < 32) (h92 : Qt.bt l p ≠ 92) (hn : Utf.next (l.drop p) = (c, n)) (q : Qt.Pt)
    (hq : q = if n = 0 then Qt.err 7 else ⟨(l.drop p).take n, n, 0⟩) :
    Calls Tryd.prog 22 #[.string (str l), .int .i64 p] w fun e w' => e = .returned (ptv q) ∧ Below w.heap.size w w' := by
  have hcon := fun W => one_any l p W (by omega) (by omega)
  rw [hn] at hcon
  have hle := Utf.next_le (l := l.drop p)
  rw [hn, List.length_drop] at hle
  simp only at hcon hle
  obtain ⟨b, hb⟩ : ∃ b, b = Qt.bt l p := ⟨_, rfl⟩
  have hix : nth l p = (b : Int) := by rw [hb]; rfl
  have e1 : 0 ≤ (p : Int) ∧ (p : Int) < l.length := by omega
  have d1 : decide (l.length ≤ p) = false := by simp; omega
  have d3 : decide ((b : Int) < 32) = false := by simp; omega
  have d4 : ((b : Int) != 92) = true := by simp; omega
  have hw2 : IntKind.i64.wrap ((p : Int) + n) = (p : Int) + n := IntWalk.i64_in _ (by omega)
  have hsl : ∀ W : World, (Instr.slice 9 (.string (str l)) (some (.int .i64 (p : Int))) (some (.int .i64 ((p : Int) + n))) none).run Tryd.prog W = .ok (.string (str ((l.drop p).take n))) W := fun W => by
    have h1 := run_slice_str W 9 l .i64 .i64 (p : Int) ((p : Int) + n) Tryd.underlying9 (by omega)
    rw [Int.toNat_natCast, show ((p : Int) + n).toNat - p = n by omega] at h1
    exact h1
  have HQ := Lib.hid hq
  clear h92 h32 hn hb hq
  go_enter Tryd.func22, Tryd.ntmps22
  by_cases hz : n = 0
  · have HQ2 : Hid (q = ⟨[], 0, 7⟩) := by unfold Hid; rw [HQ.out, if_pos hz]; rfl
    subst hz
    clear HQ
    go_wp2_with fail
    refine (hcon _).mono ?_
    rintro e w2 ⟨rfl, hB⟩
    obtain ⟨d, os, rfl⟩ := later_of_below hB
    clear hB
    go_wp2
    refine bodyPost_ret (v := ptv q) (by rw [ptv_eq HQ2]; simp [results, Tryd.results22, go_sem] <;> rfl) rfl ⟨rfl, ?_⟩
    (repeat' (first | (with_reducible exact Below.refl _ _) | (with_reducible assumption) | (with_reducible refine below_later' ?_ ?_ _ _) | (with_reducible refine Below.alloc ?_ ?_ _) | (with_reducible refine Below.setCell ?_ ?_ _) | (with_reducible refine Below.drew ?_) | (with_reducible refine below_drewN ?_ _) | (with_reducible exact Nat.le_refl _) | omega | (simp; done) | (simp; omega)))
  · have HQ2 : Hid (q = ⟨(l.drop p).take n, n, 0⟩) := by unfold Hid; rw [HQ.out, if_neg hz]
    have hzb : ((n : Int) == 0) = false := by simp; omega
    clear HQ
    go_wp2_with fail
    refine (hcon _).mono ?_
    rintro e w2 ⟨rfl, hB⟩
    obtain ⟨d, os, rfl⟩ := later_of_below hB
    clear hB
    go_wp2
    refine bodyPost_ret (v := ptv q) (by rw [ptv_eq HQ2]; simp [results, Tryd.results22, go_sem] <;> rfl) rfl ⟨rfl, ?_⟩
    (repeat' (first | (with_reducible exact Below.refl _ _) | (with_reducible assumption) | (with_reducible refine below_later' ?_ ?_ _ _) | (with_reducible refine Below.alloc ?_ ?_ _) | (with_reducible refine Below.setCell ?_ ?_ _) | (with_reducible refine Below.drew ?_) | (with_reducible refine below_drewN ?_ _) | (with_reducible exact Nat.le_refl _) | omega | (simp; done) | (simp; omega)))

set_option maxHeartbeats 4000000 in
set_option maxRecDepth 1000000 in
theorem rqpart_rest (l : List UInt8) (p : Nat) (w : World) (hp : p ≤ l.length) (hl : l.length ≤ 1000000000) (e : Nat) (q : Qt.Pt) (hq : Hid (q = Qt.err e))
    (h : (e = 2 ∧ l.length ≤ p) ∨ (e = 3 ∧ p < l.length ∧ Qt.bt l p < 32) ∨ (e = 2 ∧ p < l.length ∧ Qt.bt l p = 92 ∧ l.length ≤ p + 1) ∨
      (e = 3 ∧ p + 1 < l.length ∧ Qt.bt l p = 92 ∧ Qt.mean (Qt.bt l (p + 1)) = 0 ∧ Qt.bt l (p + 1) ≠ 117)) :
    Calls Tryd.prog 22 #[.string (str l), .int .i64 p] w fun e w' => e = .returned (ptv q) ∧ Below w.heap.size w w' := by
  have HQ2 : Hid (q = ⟨[], 0, e⟩) := hq
  clear hq
  have hix : nth l p = (Qt.bt l p : Int) := rfl
  have hix2 : nth l (p + 1) = (Qt.bt l (p + 1) : Int) := rfl
  have hw1 : IntKind.i64.wrap ((p : Int) + 1) = (p : Int) + 1 := IntWalk.i64_in _ (by omega)
  have e3 : ((p : Int) + 1).toNat = p + 1 := by omega
  generalize Qt.bt l p = b at *
  generalize Qt.bt l (p + 1) = c at *
  go_enter Tryd.func22, Tryd.ntmps22
  rcases h with ⟨rfl, h1⟩ | ⟨rfl, h1, h2⟩ | ⟨rfl, h1, rfl, h3⟩ | ⟨rfl, h1, rfl, h3, h4⟩
  · have d1 : decide (l.length ≤ p) = true := decide_eq_true h1
    go_wp2
    refine bodyPost_ret (v := ptv q) (by rw [ptv_eq HQ2]; simp [results, Tryd.results22, go_sem] <;> rfl) rfl ⟨rfl, ?_⟩
    (repeat' (first | (with_reducible exact Below.refl _ _) | (with_reducible assumption) | (with_reducible refine below_later' ?_ ?_ _ _) | (with_reducible refine Below.alloc ?_ ?_ _) | (with_reducible refine Below.setCell ?_ ?_ _) | (with_reducible refine Below.drew ?_) | (with_reducible refine below_drewN ?_ _) | (with_reducible exact Nat.le_refl _) | omega | (simp; done) | (simp; omega)))
  · have d1 : decide (l.length ≤ p) = false := by simp; omega
    have e1 : 0 ≤ (p : Int) ∧ (p : Int) < l.length := by omega
    have d3 : decide ((b : Int) < 32) = true := by simp; omega
    clear h2
    go_wp2
    refine bodyPost_ret (v := ptv q) (by rw [ptv_eq HQ2]; simp [results, Tryd.results22, go_sem] <;> rfl) rfl ⟨rfl, ?_⟩
    (repeat' (first | (with_reducible exact Below.refl _ _) | (with_reducible assumption) | (with_reducible refine below_later' ?_ ?_ _ _) | (with_reducible refine Below.alloc ?_ ?_ _) | (with_reducible refine Below.setCell ?_ ?_ _) | (with_reducible refine Below.drew ?_) | (with_reducible refine below_drewN ?_ _) | (with_reducible exact Nat.le_refl _) | omega | (simp; done) | (simp; omega)))
  · have d1 : decide (l.length ≤ p) = false := by simp; omega
    have e1 : 0 ≤ (p : Int) ∧ (p : Int) < l.length := by omega
    have d2 : decide ((l.length : Int) ≤ (p : Int) + 1) = true := by simp; omega
    go_wp2
    refine bodyPost_ret (v := ptv q) (by rw [ptv_eq HQ2]; simp [results, Tryd.results22, go_sem] <;> rfl) rfl ⟨rfl, ?_⟩
    (repeat' (first | (with_reducible exact Below.refl _ _) | (with_reducible assumption) | (with_reducible refine below_later' ?_ ?_ _ _) | (with_reducible refine Below.alloc ?_ ?_ _) | (with_reducible refine Below.setCell ?_ ?_ _) | (with_reducible refine Below.drew ?_) | (with_reducible refine below_drewN ?_ _) | (with_reducible exact Nat.le_refl _) | omega | (simp; done) | (simp; omega)))
  · have d1 : decide (l.length ≤ p) = false := by simp; omega
    have e1 : 0 ≤ (p : Int) ∧ (p : Int) < l.length := by omega
    have e2 : 0 ≤ (p : Int) + 1 ∧ (p : Int) + 1 < l.length := by omega
    have d2 : decide ((l.length : Int) ≤ (p : Int) + 1) = false := by simp; omega
    have n1 : ((c : Int) == 34) = false := by simp; rintro h; rw [show c = 34 by omega] at h3; revert h3; decide
    have n2 : ((c : Int) == 92) = false := by simp; rintro h; rw [show c = 92 by omega] at h3; revert h3; decide
    have n3 : ((c : Int) == 47) = false := by simp; rintro h; rw [show c = 47 by omega] at h3; revert h3; decide
    have n4 : ((c : Int) == 98) = false := by simp; rintro h; rw [show c = 98 by omega] at h3; revert h3; decide
    have n5 : ((c : Int) == 102) = false := by simp; rintro h; rw [show c = 102 by omega] at h3; revert h3; decide
    have n6 : ((c : Int) == 110) = false := by simp; rintro h; rw [show c = 110 by omega] at h3; revert h3; decide
    have n7 : ((c : Int) == 114) = false := by simp; rintro h; rw [show c = 114 by omega] at h3; revert h3; decide
    have n8 : ((c : Int) == 116) = false := by simp; rintro h; rw [show c = 116 by omega] at h3; revert h3; decide
    have n9 : ((c : Int) == 117) = false := by simp; omega
    clear h3 h4
    go_wp2
    refine bodyPost_ret (v := ptv q) (by rw [ptv_eq HQ2]; simp [results, Tryd.results22, go_sem] <;> rfl) rfl ⟨rfl, ?_⟩
    (repeat' (first | (with_reducible exact Below.refl _ _) | (with_reducible assumption) | (with_reducible refine below_later' ?_ ?_ _ _) | (with_reducible refine Below.alloc ?_ ?_ _) | (with_reducible refine Below.setCell ?_ ?_ _) | (with_reducible refine Below.drew ?_) | (with_reducible refine below_drewN ?_ _) | (with_reducible exact Nat.le_refl _) | omega | (simp; done) | (simp; omega)))

set_option maxHeartbeats 4000000 in
set_option maxRecDepth 1000000 in
theorem rqpart_coded (l : List UInt8) (p : Nat) (w : World) (hp : p + 1 < l.length) (hl : l.length ≤ 1000000000) (h92 : Qt.bt l p = 92) (h117 : Qt.bt l (p + 1) = 117) :
    Calls Tryd.prog 22 #[.string (str l), .int .i64 p] w fun e w' => e = .returned (ptv (Qt.coded (l.drop (p + 2)))) ∧ Below w.heap.size w w' := by
  have hcon := fun W => rqcoded_any l p W (by omega) hl
  obtain ⟨s, n, e, hq⟩ : ∃ s n e, Qt.coded (l.drop (p + 2)) = ⟨s, n, e⟩ := ⟨_, _, _, rfl⟩
  rw [hq] at hcon ⊢
  unfold ptv at hcon
  simp only at hcon
  have hix : nth l p = 92 := by show ((Qt.bt l p : Nat) : Int) = 92; rw [h92]; rfl
  have hix2 : nth l (p + 1) = 117 := by show ((Qt.bt l (p + 1) : Nat) : Int) = 117; rw [h117]; rfl
  have hw1 : IntKind.i64.wrap ((p : Int) + 1) = (p : Int) + 1 := IntWalk.i64_in _ (by omega)
  have e3 : ((p : Int) + 1).toNat = p + 1 := by omega
  have d1 : decide (l.length ≤ p) = false := by simp; omega
  have e1 : 0 ≤ (p : Int) ∧ (p : Int) < l.length := by omega
  have e2 : 0 ≤ (p : Int) + 1 ∧ (p : Int) + 1 < l.length := by omega
  have d2 : decide ((l.length : Int) ≤ (p : Int) + 1) = false := by simp; omega
  clear hq h92 h117
  go_enter Tryd.func22, Tryd.ntmps22
  go_wp2_with fail
  refine (hcon _).mono ?_
  rintro e' w2 ⟨rfl, hB⟩
  obtain ⟨d, os, rfl⟩ := later_of_below hB
  clear hB
  go_wp2
  refine bodyPost_ret (v := ptv ⟨s, n, e⟩) (by unfold ptv; simp [results, Tryd.results22, go_sem] <;> rfl) rfl ⟨rfl, ?_⟩
  (repeat' (first | (with_reducible exact Below.refl _ _) | (with_reducible assumption) | (with_reducible refine below_later' ?_ ?_ _ _) | (with_reducible refine Below.alloc ?_ ?_ _) | (with_reducible refine Below.setCell ?_ ?_ _) | (with_reducible refine Below.drew ?_) | (with_reducible refine below_drewN ?_ _) | (with_reducible exact Nat.le_refl _) | omega | (simp; done) | (simp; omega)))

theorem rqpart_any (l : List UInt8) (p : Nat) (w : World) (hp : p ≤ l.length) (hl : l.length ≤ 1000000000) :
    Calls Tryd.prog 22 #[.string (str l), .int .i64 p] w fun e w' => e = .returned (ptv (Qt.part (l.drop p))) ∧ Below w.heap.size w w' := by
  have hpt := Qt.part_at l p
  by_cases h1 : l.length ≤ p
  · rw [if_pos h1] at hpt
    exact rqpart_rest l p w hp hl 2 _ hpt (.inl ⟨rfl, h1⟩)
  · rw [if_neg h1] at hpt
    by_cases h2 : Qt.bt l p < 32
    · rw [if_pos h2] at hpt
      exact rqpart_rest l p w hp hl 3 _ hpt (.inr (.inl ⟨rfl, by omega, h2⟩))
    · rw [if_neg h2] at hpt
      by_cases h3 : Qt.bt l p ≠ 92
      · rw [if_pos h3] at hpt
        obtain ⟨c, n, hn⟩ : ∃ c n, Utf.next (l.drop p) = (c, n) := ⟨_, _, rfl⟩
        rw [hn] at hpt
        exact rqpart_plain l p n c w (by omega) hl h2 h3 hn _ hpt
      · rw [if_neg h3, Qt.esc_at] at hpt
        have h3' : Qt.bt l p = 92 := by omega
        by_cases h4 : l.length ≤ p + 1
        · rw [if_pos h4] at hpt
          exact rqpart_rest l p w hp hl 2 _ hpt (.inr (.inr (.inl ⟨rfl, by omega, h3', h4⟩)))
        · rw [if_neg h4] at hpt
          by_cases h5 : Qt.mean (Qt.bt l (p + 1)) ≠ 0
          · rw [if_pos h5] at hpt
            rw [hpt]
            exact rqpart_esc l p _ w (by omega) hl h3' rfl h5
          · rw [if_neg h5] at hpt
            by_cases h6 : Qt.bt l (p + 1) = 117
            · rw [if_pos h6] at hpt
              rw [hpt]
              exact rqpart_coded l p w (by omega) hl h3' h6
            · rw [if_neg h6] at hpt
              exact rqpart_rest l p w hp hl 3 _ hpt (.inr (.inr (.inr ⟨rfl, by omega, h3', by omega, h6⟩)))
end Go.Proofs.YtpoameaaoapiiaaDoor
