/- frame.Reader: New, Left, Err, cut, head. -/
import Derived.Test.YtcoilgfjabnoeaaSli
import Derived.Test.YtcoilgfjabnoeaaFrp
import Derived.Test.YtcoilgfjabnoeaaVarg
import Derived.Handy
namespace Go.Proofs.Ytcoilgfjabnoeaa
open Go.RowKit

/-- A reader at block R: what is left, the error. -/
def Rdr (w : World) (R : Nat) (l : List UInt8) (e : Nat) : Prop :=
  ∃ A n c, w.heap[R]? = some (.cells #[.slice A n c, .int .i64 (e : Int)] 69 (0, 0)) ∧ Bs w A n c l ∧ ∀ ad, A = some ad → 0 < n → ad.block < R

theorem Bs.keepOut {w w' : World} {A : Option Addr} {n c R : Nat} {l : List UInt8} (h : Bs w A n c l) (hg : w.grownBy w' (some R)) (hR : ∀ ad, A = some ad → 0 < n → ad.block ≠ R) : Bs w' A n c l :=
  ⟨h.1, h.2.1, h.2.2.1, fun hn => by
    obtain ⟨ad, e, hb, hc⟩ := h.2.2.2 hn
    refine ⟨ad, e, Nat.lt_of_lt_of_le hb hg.size, fun j u hu => ?_⟩
    have := hR ad e hn
    rw [World.cell?_of_block (hg.block _ (by rw [block_of_add]; exact hb) (by rw [block_of_add]; simpa using this))]
    exact hc j u hu⟩
theorem grownBy_setCell (W : World) (b o : Nat) (v : Value) : W.grownBy (W.setCell ⟨b, o, none⟩ v) (some b) :=
  ⟨rfl, rfl, rfl, by simp, fun k _ hk => Below.heap_setCell _ _ _ k (fun e => hk (by rw [e]))⟩

set_option maxRecDepth 1000000 in
set_option maxHeartbeats 400000 in
theorem frnew_any (l : List UInt8) (A : Option Addr) (n c : Nat) (w : World) (hb : Bs w A n c l) (hn : n ≤ 1000000) :
    Calls Try.prog 27 #[.slice A n c] w fun e w' => ∃ R, e = .returned (.pointer (some ⟨R, 0, none⟩)) ∧ w.heap.size ≤ R ∧ R < w'.heap.size ∧ Rdr w' R l 0 ∧ Below w.heap.size w w' := by
  go_enter Try.func27, Try.ntmps27
  go_wp2_with fail
  refine (clone_any l A n c w hb (by omega)).mono ?_
  rintro e w1 ⟨A1, n1, c1, rfl, hown1, hB1⟩
  go_wp2
  go_ret
  refine ⟨w1.heap.size, rfl, hB1.size, by simp, ⟨A1, n1, c1, heap_alloc_new w1 _, (own_bs hown1).alloc _, fun ad e hn => (by have h := own_bs hown1; obtain ⟨ad', e', h1, _⟩ := h.2.2.2 hn; rw [e] at e'; cases e'; exact h1)⟩, hB1.alloc hB1.size _⟩

set_option maxRecDepth 1000000 in
set_option maxHeartbeats 400000 in
theorem frleft_any (R : Nat) (l : List UInt8) (e : Nat) (w : World) (h : Rdr w R l e) :
    Calls Try.prog 37 #[.pointer (some ⟨R, 0, none⟩)] w fun e' w' => e' = .returned (.int .i64 (l.length : Int)) ∧ w = w' := by
  obtain ⟨A, n, c, h1, h2, _⟩ := h
  have hl := h2.len
  have hc : w.cell? ⟨R, 0, none⟩ = some (.slice A n c) := by rw [cell_of_row _ _ _ _ _ _ h1]; rfl
  subst hl
  clear h1
  go_enter Try.func37, Try.ntmps37
  go_wp2
  go_ret
  exact ⟨rfl, rfl⟩
set_option maxRecDepth 1000000 in
set_option maxHeartbeats 400000 in
theorem frerr_any (R : Nat) (l : List UInt8) (e : Nat) (w : World) (h : Rdr w R l e) :
    Calls Try.prog 38 #[.pointer (some ⟨R, 0, none⟩)] w fun e' w' => e' = .returned (.int .i64 (e : Int)) ∧ w = w' := by
  obtain ⟨A, n, c, h1, h2, _⟩ := h
  have hc : w.cell? ⟨R, 1, none⟩ = some (.int .i64 (e : Int)) := by rw [cell_of_row _ _ _ _ _ _ h1]; rfl
  clear h1
  go_enter Try.func38, Try.ntmps38
  go_wp2
  go_ret
  exact ⟨rfl, rfl⟩

set_option maxRecDepth 1000000 in
set_option maxHeartbeats 1000000 in
theorem frcut_short (R : Nat) (l : List UInt8) (e s k : Nat) (w : World) (h : Rdr w R l e) (hs : s ≤ l.length) (hk : l.length - s < k) :
    Calls Try.prog 49 #[.pointer (some ⟨R, 0, none⟩), .int .i64 (s : Int), .int .i64 (k : Int)] w fun e' w' => e' = .returned (.slice none 0 0) ∧ Rdr w' R l 2 ∧ w.grownBy w' (some R) := by
  obtain ⟨A, n, c, h1, h2, h3⟩ := h
  have hl := h2.len
  have hmax := h2.max
  have hc : w.cell? ⟨R, 0, none⟩ = some (.slice A n c) := by rw [cell_of_row _ _ _ _ _ _ h1]; rfl
  have hc1 : w.cell? ⟨R, 1, none⟩ = some (.int .i64 (e : Int)) := by rw [cell_of_row _ _ _ _ _ _ h1]; rfl
  have hf1 : w.frozen? ⟨R, 1, none⟩ = false := frozen_of_row _ _ _ _ _ h1
  have hd : decide ((n : Int) - (s : Int) < (k : Int)) = true := by simp; omega
  have hsn : s ≤ n := by omega
  have HR : Hid (Rdr (w.setCell ⟨R, 1, none⟩ (.int .i64 2)) R l 2) := ⟨A, n, c, by rw [heap_setCell_same w R 1 _ _ _ h1]; rfl, h2.keepOut (grownBy_setCell w R 1 _) (fun ad e hn => by have := h3 ad e hn; omega), h3⟩
  have HL := Lib.hid hl
  clear h1 h3 hl
  go_enter Try.func49, Try.ntmps49
  go_wp2
  go_ret
  exact ⟨rfl, HR.out, grownBy_setCell _ _ _ _⟩

set_option maxRecDepth 1000000 in
set_option maxHeartbeats 1000000 in
theorem frcut_ok (R : Nat) (l : List UInt8) (e s k : Nat) (w : World) (h : Rdr w R l e) (hs : s + k ≤ l.length) :
    Calls Try.prog 49 #[.pointer (some ⟨R, 0, none⟩), .int .i64 (s : Int), .int .i64 (k : Int)] w fun e' w' => ∃ A2 c2, e' = .returned (.slice A2 k c2) ∧ Bs w' A2 k c2 ((l.drop s).take k) ∧ Rdr w' R ((l.drop s).drop k) e ∧ w.grownBy w' (some R) := by
  obtain ⟨A, n, c, h1, h2, h3⟩ := h
  have hl := h2.len
  have hmax := h2.max
  have hc : w.cell? ⟨R, 0, none⟩ = some (.slice A n c) := by rw [cell_of_row _ _ _ _ _ _ h1]; rfl
  have hf1 : w.frozen? ⟨R, 0, none⟩ = false := frozen_of_row _ _ _ _ _ h1
  have hd : decide ((n : Int) - (s : Int) < (k : Int)) = false := by simp; omega
  have hsn : s ≤ n := by omega
  have hsi : (s : Int) + (k : Int) ≤ (n : Int) := by omega
  obtain ⟨A2, hr2, hb2, ha2⟩ := h2.sub (s : Int) ((s : Int) + (k : Int)) s k rfl (by omega) (by omega)
  obtain ⟨A3, hr3, hb3, ha3⟩ := cut_bytes_int h2 (k := s + k) ((s : Int) + (k : Int)) (by omega) (by omega)
  have HR : Hid (Rdr (w.setCell ⟨R, 0, none⟩ (.slice A3 (n - (s + k)) (c - (s + k)))) R ((l.drop s).drop k) e ∧ Bs (w.setCell ⟨R, 0, none⟩ (.slice A3 (n - (s + k)) (c - (s + k)))) A2 k (c - s) ((l.drop s).take k)) := by
    refine ⟨⟨A3, n - (s + k), c - (s + k), by rw [heap_setCell_same w R 0 _ _ _ h1]; rfl, ?_, fun a2 e hn => ?_⟩, ?_⟩
    · rw [List.drop_drop]
      exact hb3.keepOut (grownBy_setCell w R 0 _) (fun a2 e hn => by obtain ⟨ad, e1, e2⟩ := ha3 a2 e; have := h3 ad e1 (by omega); omega)
    · obtain ⟨ad, e1, e2⟩ := ha3 a2 e
      have := h3 ad e1 (by omega); omega
    · exact hb2.keepOut (grownBy_setCell w R 0 _) (fun a2 e hn => by obtain ⟨ad, e1, e2⟩ := ha2 a2 e; have := h3 ad e1 (by omega); omega)
  have HL := Lib.hid hl
  clear h1 h3 hb2 hb3 ha2 ha3 hl
  go_enter Try.func49, Try.ntmps49
  go_wp2
  go_ret
  exact ⟨A2, c - s, rfl, HR.out.2, HR.out.1, grownBy_setCell _ _ _ _⟩
end Go.Proofs.Ytcoilgfjabnoeaa
