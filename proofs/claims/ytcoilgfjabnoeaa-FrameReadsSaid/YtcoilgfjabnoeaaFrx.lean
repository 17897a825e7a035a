/- frame.Reader: head, Frame. -/
import Derived.Test.YtcoilgfjabnoeaaFrw
namespace Go.Proofs.Ytcoilgfjabnoeaa
open Go.RowKit

theorem get_cases (l : List UInt8) : (Var.get l).2.2 = 0 ∨ ((Var.get l).1 = 0 ∧ (Var.get l).2.1 = 0 ∧ (Var.get l).2.2 ≠ 0 ∧ (Var.get l).2.2 ≤ 4) := by
  rcases Var.getF_cases l 0 0 with h | h | h | h
  · exact .inl h
  all_goals (right; unfold Var.get; rw [h]; exact ⟨rfl, rfl, by decide, by decide⟩)

set_option maxRecDepth 1000000 in
set_option maxHeartbeats 1000000 in
theorem frhead_no (R : Nat) (l : List UInt8) (e : Nat) (w : World) (h : Rdr w R l e) (he : e ≠ 0) :
    Calls Try.prog 48 #[.pointer (some ⟨R, 0, none⟩)] w fun e' w' => e' = .returned (.tuple #[.int .u64 0, .int .i64 0]) ∧ w = w' := by
  obtain ⟨A, n, c, h1, h2, h3⟩ := h
  have hc1 : w.cell? ⟨R, 1, none⟩ = some (.int .i64 (e : Int)) := by rw [cell_of_row _ _ _ _ _ _ h1]; rfl
  have hd : ((e : Int) != 0) = true := by rw [bne_iff_ne]; omega
  clear h1 h3 he
  go_enter Try.func48, Try.ntmps48
  go_wp2
  go_ret2
  exact ⟨rfl, rfl⟩

set_option maxRecDepth 1000000 in
set_option maxHeartbeats 1000000 in
theorem frhead_yes (R : Nat) (l : List UInt8) (w : World) (h : Rdr w R l 0) :
    Calls Try.prog 48 #[.pointer (some ⟨R, 0, none⟩)] w fun e' w' => e' = .returned (.tuple #[.int .u64 (Var.get l).1, .int .i64 (Var.get l).2.1]) ∧ Rdr w' R l (Var.get l).2.2 ∧ w.grownBy w' (some R) := by
  obtain ⟨A, n, c, h1, h2, h3⟩ := h
  have hc0 : w.cell? ⟨R, 0, none⟩ = some (.slice A n c) := by rw [cell_of_row _ _ _ _ _ _ h1]; rfl
  have hc1 : w.cell? ⟨R, 1, none⟩ = some (.int .i64 0) := by rw [cell_of_row _ _ _ _ _ _ h1]; rfl
  have hf1 : w.frozen? ⟨R, 1, none⟩ = false := frozen_of_row _ _ _ _ _ h1
  have HR : Hid (Rdr (w.setCell ⟨R, 1, none⟩ (.int .i64 (Var.get l).2.2)) R l (Var.get l).2.2) := ⟨A, n, c, by rw [heap_setCell_same w R 1 _ _ _ h1]; rfl, h2.keepOut (grownBy_setCell w R 1 _) (fun ad e hn => by have := h3 ad e hn; omega), h3⟩
  clear h1 h3
  go_enter Try.func48, Try.ntmps48
  go_wp2_with fail
  refine (get_any l A n c w h2).mono ?_
  rintro e w ⟨rfl, rfl⟩
  go_wp2
  go_ret2
  exact ⟨rfl, HR.out, grownBy_setCell _ _ _ _⟩

theorem own_mono {w : World} {base b2 e size : Nat} {v : Value} {n : Nat} {xs : List Value} (h : w.ownsRow base e size v n xs) (hb : b2 ≤ base) : w.ownsRow b2 e size v n xs := by
  refine ⟨h.1, ?_⟩
  rcases h.2 with h2 | ⟨g, cap, cur, hv, hg, r⟩
  · exact .inl h2
  · exact .inr ⟨g, cap, cur, hv, Nat.le_trans hb hg, r⟩
theorem grown_of_below {w w' : World} (h : Below w.heap.size w w') (row : Option Nat) : w.grownBy w' row := ⟨h.os, h.tape, h.output, h.size, fun k hk _ => h.block k hk⟩
theorem Rdr.below {w w' : World} {R : Nat} {l : List UInt8} {e : Nat} (h : Rdr w R l e) (hb : Below w.heap.size w w') : Rdr w' R l e := by
  obtain ⟨A, n, c, h1, h2, h3⟩ := h
  exact ⟨A, n, c, by rw [hb.block _ (Array.getElem?_eq_some_iff.1 h1).1]; exact h1, h2.below hb, h3⟩
/-- What Frame leaves. -/
def Framed (w : World) (R : Nat) (f : List UInt8 × Nat × List UInt8) (e : Ending) (w' : World) : Prop :=
  ∃ A n c, e = .returned (.slice A n c) ∧ w'.ownsRow w.heap.size 5 1 (.slice A n c) n (bval f.2.2) ∧ Rdr w' R f.1 f.2.1 ∧ w.grownBy w' (some R)

set_option maxRecDepth 1000000 in
set_option maxHeartbeats 1000000 in
theorem frframe_yes (R M : Nat) (mi : Int) (l : List UInt8) (w : World) (h : Rdr w R l 0) (hl : l.length ≤ 1000000) (hmi : M = mi.toNat) (hmx : mi ≤ 9223372036854775807) (hmn : -9223372036854775808 ≤ mi) :
    Calls Try.prog 34 #[.pointer (some ⟨R, 0, none⟩), .int .i64 mi] w (Framed w R (Fr.frame l M)) := by
  have hmax : (if mi < 0 then 0 else mi) = (M : Int) := by split <;> omega
  have hM : M < 9223372036854775808 := by omega
  go_enter Try.func34, Try.ntmps34
  go_wp2_with fail
  refine (frhead_yes R l w h).mono ?_
  rintro e w1 ⟨rfl, hr1, hg1⟩
  obtain ⟨A, n, c, h1, h2, h3⟩ := hr1
  have hc1 : w1.cell? ⟨R, 1, none⟩ = some (.int .i64 ((Var.get l).2.2 : Int)) := by rw [cell_of_row _ _ _ _ _ _ h1]; rfl
  have hf1 : w1.frozen? ⟨R, 1, none⟩ = false := frozen_of_row _ _ _ _ _ h1
  have HR1 : Hid (Rdr w1 R l (Var.get l).2.2) := ⟨A, n, c, h1, h2, h3⟩
  rcases get_cases l with hz | ⟨g1, g2, g3, g4⟩
  · obtain ⟨z1, z2, z3, _⟩ := Fr.get_size hz
    have hd : (((Var.get l).2.2 : Int) != 0) = false := by rw [hz]; rfl
    have hgn1 : (0 : Int) ≤ ((Var.get l).1 : Int) := by omega
    by_cases hbig : M < (Var.get l).1
    · have hd2 : decide ((M : Int) < ((Var.get l).1 : Int)) = true := by simp; omega
      have hfr : Fr.frame l M = (l, 4, []) := by unfold Fr.frame; rw [if_neg (by rw [hz]; decide), if_pos hbig]
      have HF := Lib.hid hfr
      have HR2 : Hid (Rdr (w1.setCell ⟨R, 1, none⟩ (.int .i64 4)) R l 4) := ⟨A, n, c, by rw [heap_setCell_same w1 R 1 _ _ _ h1]; rfl, h2.keepOut (grownBy_setCell w1 R 1 _) (fun ad e hn => by have := h3 ad e hn; omega), h3⟩
      clear hfr hz h1 h3 hmi
      go_wp2
      go_ret
      rw [HF.out]
      exact ⟨none, 0, 0, rfl, own_nil _ _, HR2.out, hg1.trans (grownBy_setCell _ _ _ _)⟩
    · have hd2 : decide ((M : Int) < ((Var.get l).1 : Int)) = false := by simp; omega
      have hgn2 : ((Var.get l).1 : Int) ≤ 9223372036854775807 := by omega
      by_cases hsh : l.length - (Var.get l).2.1 < (Var.get l).1
      · have hfr : Fr.frame l M = (l, 2, []) := by unfold Fr.frame; rw [if_neg (by rw [hz]; decide), if_neg hbig, if_pos hsh]
        have HF := Lib.hid hfr
        clear hfr hz h1 h3 hmi
        go_wp2_with fail
        refine (frcut_short R l _ (Var.get l).2.1 (Var.get l).1 w1 HR1.out z2 hsh).mono ?_
        rintro e w2 ⟨rfl, hr2, hg2⟩
        go_wp2_with fail
        refine (clone_any [] none 0 0 w2 (Rd.nil _ _) (by omega)).mono ?_
        rintro e w3 ⟨A3, n3, c3, rfl, hown3, hB3⟩
        go_wp2
        go_ret
        rw [HF.out]
        exact ⟨A3, n3, c3, rfl, own_mono hown3 (Nat.le_trans hg1.size hg2.size), hr2.below hB3, (hg1.trans hg2).trans (grown_of_below hB3 _)⟩
      · have hfr : Fr.frame l M = ((l.drop (Var.get l).2.1).drop (Var.get l).1, 0, (l.drop (Var.get l).2.1).take (Var.get l).1) := by unfold Fr.frame; rw [if_neg (by rw [hz]; decide), if_neg hbig, if_neg hsh]
        have HF := Lib.hid hfr
        have hz' := Lib.hid hz
        clear hfr hz h1 h3 hmi
        go_wp2_with fail
        refine (frcut_ok R l _ (Var.get l).2.1 (Var.get l).1 w1 HR1.out (by omega)).mono ?_
        rintro e w2 ⟨A2, c2, rfl, hb2, hr2, hg2⟩
        go_wp2_with fail
        refine (clone_any _ A2 _ c2 w2 hb2 (by omega)).mono ?_
        rintro e w3 ⟨A3, n3, c3, rfl, hown3, hB3⟩
        go_wp2
        go_ret
        rw [HF.out]
        rw [hz'.out] at hr2
        exact ⟨A3, n3, c3, rfl, own_mono hown3 (Nat.le_trans hg1.size hg2.size), hr2.below hB3, (hg1.trans hg2).trans (grown_of_below hB3 _)⟩
  · have hd : (((Var.get l).2.2 : Int) != 0) = true := by rw [bne_iff_ne]; omega
    have hfr : Fr.frame l M = (l, (Var.get l).2.2, []) := by unfold Fr.frame; rw [if_pos g3]
    have HF := Lib.hid hfr
    clear hfr g1 g2 g3 g4 h1 h3 hmi
    go_wp2
    go_ret
    rw [HF.out]
    exact ⟨none, 0, 0, rfl, own_nil _ _, HR1.out, hg1⟩
end Go.Proofs.Ytcoilgfjabnoeaa
