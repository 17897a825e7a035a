/- quote: must, byte, exactly. -/
import Derived.Test.YtpoameaaoapiiaaDoorChecked
import Derived.Test.YtpoameaaoapiiaaDoorStr
import Derived.Test.YtpoameaaoapiiaaDoorQp
import Derived.Test.YtpoameaaoapiiaaDoorSeq
import Derived.Handy
import Derived.StillTailTactics
import Derived.Deep.QuietTactic
import Derived.BigQuiet
namespace Go.Proofs.YtpoameaaoapiiaaDoor
open Go.RowKit

/-- A panic with an error's number. -/
abbrev dies (e : Nat) : Ending := .panicked [{ v := .iface 23 (.int .i64 e), recovered := false }]

set_option maxRecDepth 100000 in
theorem must_yes (e : Int) (w : World) : Calls Tryd.prog 17 #[.bool true, .int .i64 e] w fun r w' => r = .returned (.tuple #[]) ∧ w = w' := by
  go_enter Tryd.func17, Tryd.ntmps17
  go_wp2
  go_returns
  exact ⟨rfl, rfl⟩
set_option maxRecDepth 100000 in
theorem must_no (e : Int) (w : World) : Calls Tryd.prog 17 #[.bool false, .int .i64 e] w fun r w' => r = .panicked [{ v := .iface 23 (.int .i64 e), recovered := false }] ∧ w = w' := by
  go_enter Tryd.func17, Tryd.ntmps17
  go_wp2
  exact ⟨rfl, rfl, rfl⟩

/-- A reader in block b, at a place. -/
def Qrd (b : Nat) (l : List UInt8) (i : Nat) (w : World) : Prop := w.heap[b]? = some (.cells #[.string (str l), .int .i64 i] 38 (0, 0))
section
variable {b i : Nat} {l : List UInt8} {w w' : World}
theorem Qrd.cell0 (h : Qrd b l i w) : w.cell? ⟨b, 0, none⟩ = some (.string (str l)) := by unfold Qrd at h; simp [World.cell?, h]
theorem Qrd.cell1 (h : Qrd b l i w) : w.cell? ⟨b, 1, none⟩ = some (.int .i64 i) := by unfold Qrd at h; simp [World.cell?, h]
theorem Qrd.frozen (h : Qrd b l i w) (j : Nat) : w.frozen? ⟨b, j, none⟩ = false := by unfold Qrd at h; simp [World.frozen?, h]
theorem Qrd.lt (h : Qrd b l i w) : b < w.heap.size := by
  rcases Nat.lt_or_ge b w.heap.size with h' | h'
  · exact h'
  · unfold Qrd at h; simp [Array.getElem?_eq_none h'] at h
theorem Qrd.drew (h : Qrd b l i w) : Qrd b l i w.drew := h
theorem Qrd.set (h : Qrd b l i w) (j : Nat) : Qrd b l j (w.setCell ⟨b, 1, none⟩ (.int .i64 j)) := by
  unfold Qrd at h ⊢; simp [World.setCell, Array.getElem?_modify, h]
theorem Qrd.below (h : Qrd b l i w) (hB : Below w.heap.size w w') : Qrd b l i w' := (hB.block b h.lt).trans h
end
/-- All but the reader is as it was. -/
abbrev QE (b : Nat) (w w' : World) : Prop := Ext (fun k => k = b) w w'
theorem QE.of_below {b : Nat} {w w' : World} (h : Below w.heap.size w w') : QE b w w' := Ext.of_below h

set_option maxHeartbeats 1000000 in
set_option maxRecDepth 100000 in
theorem qbyte_ok (b i : Nat) (l : List UInt8) (w : World) (hR : Qrd b l i w) (hi : i < l.length) (hl : l.length ≤ 1000000000) :
    Calls Tryd.prog 29 #[.pointer (some ⟨b, 0, none⟩)] w fun e w' => e = .returned (.int .u8 (Qt.bt l i)) ∧ Qrd b l (i + 1) w' ∧ QE b w w' := by
  have c0 := hR.cell0
  have c1 := hR.cell1
  have f1 := hR.frozen 1
  have hlt : (i : Int) < (l.length : Int) := by omega
  have hd : decide ((i : Int) < (l.length : Int)) = true := by simpa using hlt
  have hw1 : IntKind.i64.wrap ((i : Int) + 1) = (i : Int) + 1 := IntWalk.i64_in _ (by omega)
  have hx : nth l i = (Qt.bt l i : Int) := rfl
  go_enter Tryd.func29, Tryd.ntmps29
  go_wp2
  go_still_tail 10, (by kernel_rfl)
  go_wp2_with (first | (go_at_call 17; refine (must_yes _ _).mono ?_; rintro e w2 ⟨rfl, rfl⟩))
  have hR2 := (hR.set (i + 1)).drew
  have g0 := hR2.cell0
  have g1 := hR2.cell1
  have hw2 : IntKind.i64.wrap ((i : Int) + 1 - 1) = (i : Int) := by rw [IntWalk.i64_in _ (by omega)]; omega
  have hB : QE b w (w.setCell ⟨b, 1, none⟩ (.int .i64 ((i + 1 : Nat) : Int))).drew := (Ext.setCell (T := fun k => k = b) (p := ⟨b, 1, none⟩) (Ext.refl _ w) rfl _).drew
  have ei : ((i + 1 : Nat) : Int) = (i : Int) + 1 := by omega
  rw [ei] at g1 hB hR2 g0
  generalize hW : (w.setCell ⟨b, 1, none⟩ (.int .i64 ((i : Int) + 1))).drew = w2 at *
  clear hW c0 c1 f1
  have hi0 : (0 : Int) ≤ (i : Int) := by omega
  go_quiet (fail)
  go_wp2
  go_returns
  refine ⟨rfl, ?_, ?_⟩
  · exact hR2
  · exact hB.trans (Ext.of_below (below_drewN_self _ _ _))
set_option maxHeartbeats 1000000 in
set_option maxRecDepth 100000 in
theorem qbyte_no (b i : Nat) (l : List UInt8) (w : World) (hR : Qrd b l i w) (hi : ¬ i < l.length) :
    Calls Tryd.prog 29 #[.pointer (some ⟨b, 0, none⟩)] w fun e w' => e = dies 2 ∧ QE b w w' := by
  have c0 := hR.cell0
  have c1 := hR.cell1
  have hd : decide ((i : Int) < (l.length : Int)) = false := by simp; omega
  go_enter Tryd.func29, Tryd.ntmps29
  go_wp2
  go_still_tail 10, (by kernel_rfl)
  go_wp2_with (first | (go_at_call 17; refine (must_no _ _).mono ?_; rintro e w2 ⟨rfl, rfl⟩))
  exact ⟨rfl, rfl, (Ext.refl _ w).drew⟩

set_option maxHeartbeats 1000000 in
set_option maxRecDepth 100000 in
theorem qexactly_ok (b i : Nat) (c : Nat) (l : List UInt8) (w : World) (hR : Qrd b l i w) (hi : i < l.length) (hl : l.length ≤ 1000000000) (hc : Qt.bt l i = c) :
    Calls Tryd.prog 16 #[.pointer (some ⟨b, 0, none⟩), .int .u8 c] w fun e w' => e = .returned (.tuple #[]) ∧ Qrd b l (i + 1) w' ∧ QE b w w' := by
  have hb := qbyte_ok b i l w hR hi hl
  rw [hc] at hb
  clear hc
  go_enter Tryd.func16, Tryd.ntmps16
  go_wp2_with fail
  refine hb.mono ?_
  rintro e w2 ⟨rfl, hR2, hE2⟩
  go_wp2_with (first | (go_at_call 17; refine (must_yes _ _).mono ?_; rintro e w2 ⟨rfl, rfl⟩))
  go_end0
  exact ⟨rfl, hR2, hE2⟩
/-- What 'exactly' gives up with. -/
def exErr (l : List UInt8) (i : Nat) : Nat := if i < l.length then 3 else 2
set_option maxHeartbeats 1000000 in
set_option maxRecDepth 100000 in
theorem qexactly_no (b i : Nat) (c : Nat) (l : List UInt8) (w : World) (hR : Qrd b l i w) (hl : l.length ≤ 1000000000) (hc : i < l.length → Qt.bt l i ≠ c) :
    Calls Tryd.prog 16 #[.pointer (some ⟨b, 0, none⟩), .int .u8 c] w fun e w' => e = dies (exErr l i) ∧ QE b w w' := by
  by_cases hi : i < l.length
  · have hb := qbyte_ok b i l w hR hi hl
    have he : exErr l i = 3 := if_pos hi
    rw [he]
    have hcb : ((Qt.bt l i : Int) == c) = false := by have := hc hi; simp; omega
    generalize Qt.bt l i = d at *
    go_enter Tryd.func16, Tryd.ntmps16
    go_wp2_with fail
    refine hb.mono ?_
    rintro e w2 ⟨rfl, hR2, hE2⟩
    go_wp2_with (first | (go_at_call 17; refine (must_no _ _).mono ?_; rintro e w2 ⟨rfl, rfl⟩))
    exact ⟨rfl, rfl, hE2⟩
  · have hb := qbyte_no b i l w hR hi
    have he : exErr l i = 2 := if_neg hi
    rw [he]
    go_enter Tryd.func16, Tryd.ntmps16
    go_wp2_with fail
    refine hb.mono ?_
    rintro e w2 ⟨rfl, hE2⟩
    go_wp2
    exact ⟨rfl, rfl, hE2⟩
end Go.Proofs.YtpoameaaoapiiaaDoor
