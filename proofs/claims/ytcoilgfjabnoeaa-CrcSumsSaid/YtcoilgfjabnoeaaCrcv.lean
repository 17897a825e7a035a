/- crc.tables: get. -/
import Derived.Test.YtcoilgfjabnoeaaCrcu
import Derived.Test.YtcoilgfjabnoeaaOnce3
import Derived.Handy
namespace Go.Proofs.Ytcoilgfjabnoeaa
open Go.RowKit

/-- The tables at block b, offset off: not yet made, or made. -/
structure Tb (w : World) (b off : Nat) (d : Bool) : Prop where
  size : b < w.heap.size
  free : ∀ j, j < 259 → w.frozen? ⟨b, off + j, none⟩ = false
  flag : w.cell? ⟨b, off, none⟩ = some (.int .u32 (if d then 1 else 0))
  mu : w.cell? ⟨b, off + 1, none⟩ = some (.int .i32 0)
  there : ∀ j, j < 256 → (w.cell? ⟨b, off + 3 + j, none⟩).isSome = true
  made : d = true → ∀ j, j < 256 → w.cell? ⟨b, off + 3 + j, none⟩ = some (.int .u32 (Crc.bits8 j : Int))

/-- What get leaves: the table made, nothing else turned. -/
structure Got (w w' : World) (b off : Nat) : Prop where
  tb : Tb w' b off true
  below : Below b w w'
  same : ∀ o, o < off → w'.cell? ⟨b, o, none⟩ = w.cell? ⟨b, o, none⟩
  free : ∀ o, w'.frozen? ⟨b, o, none⟩ = w.frozen? ⟨b, o, none⟩

theorem alloc_cell (w : World) (o : Obj) (a : Addr) (h : a.block < w.heap.size) : (w.alloc o).cell? a = w.cell? a := ((Below.refl w.heap.size w).alloc (Nat.le_refl _) o).cell h
theorem alloc_frozen (w : World) (o : Obj) (a : Addr) (h : a.block < w.heap.size) : (w.alloc o).frozen? a = w.frozen? a := ((Below.refl w.heap.size w).alloc (Nat.le_refl _) o).frozen h

set_option maxHeartbeats 1000000 in
set_option maxRecDepth 100000 in
theorem get_done (b off : Nat) (w : World) (h : Tb w b off true) : Calls Try.prog 42 #[.pointer (some ⟨b, off, none⟩)] w fun e w' => e = .returned (.pointer (some ⟨b, off + 3, none⟩)) ∧ Got w w' b off := by
  have hs := h.size
  have h0 : (w.alloc (.cells #[.pointer (some ⟨b, off, none⟩)] 101)).cell? ⟨b, off, none⟩ = some (.int .u32 1) := (alloc_cell _ _ _ hs).trans h.flag
  have HT := Lib.hid h
  clear h
  go_enter Try.func42, Try.ntmps42
  go_wp2_with (go_at_call 51; refine (do_done _ _ _ h0).mono ?_; rintro e w' ⟨rfl, rfl⟩)
  go_ret
  have hb : Below b w (w.alloc (.cells #[.pointer (some ⟨b, off, none⟩)] 101)) := (Below.refl _ _).alloc (by omega) _
  have hcl : ∀ o, (w.alloc (.cells #[.pointer (some ⟨b, off, none⟩)] 101)).cell? ⟨b, o, none⟩ = w.cell? ⟨b, o, none⟩ := fun o => alloc_cell _ _ _ hs
  have hfl : ∀ o, (w.alloc (.cells #[.pointer (some ⟨b, off, none⟩)] 101)).frozen? ⟨b, o, none⟩ = w.frozen? ⟨b, o, none⟩ := fun o => alloc_frozen _ _ _ hs
  refine ⟨rfl, ⟨⟨by simp; omega, fun j hj => ?_, ?_, ?_, fun j hj => ?_, fun _ j hj => ?_⟩, hb, fun o _ => hcl o, hfl⟩⟩
  · rw [hfl]; exact HT.out.free j hj
  · rw [hcl]; exact HT.out.flag
  · rw [hcl]; exact HT.out.mu
  · rw [hcl]; exact HT.out.there j hj
  · rw [hcl]; exact HT.out.made rfl j hj

set_option maxHeartbeats 1000000 in
set_option maxRecDepth 100000 in
theorem get_first (b off : Nat) (w : World) (h : Tb w b off false) : Calls Try.prog 42 #[.pointer (some ⟨b, off, none⟩)] w fun e w' => e = .returned (.pointer (some ⟨b, off + 3, none⟩)) ∧ Got w w' b off := by
  have hs := h.size
  obtain ⟨w0, hw0⟩ : ∃ w0, w0 = w.alloc (.cells #[.pointer (some ⟨b, off, none⟩)] 101) := ⟨_, rfl⟩
  have hcl : ∀ o, w0.cell? ⟨b, o, none⟩ = w.cell? ⟨b, o, none⟩ := fun o => by rw [hw0]; exact alloc_cell _ _ _ hs
  have hfl : ∀ o, w0.frozen? ⟨b, o, none⟩ = w.frozen? ⟨b, o, none⟩ := fun o => by rw [hw0]; exact alloc_frozen _ _ _ hs
  have hsz0 : w0.heap.size = w.heap.size + 1 := by rw [hw0]; simp
  have hb0 : Below b w w0 := by rw [hw0]; exact (Below.refl _ _).alloc (by omega) _
  have hpl : w0.cell? ⟨w.heap.size, 0, none⟩ = some (.pointer (some ⟨b, off, none⟩)) := by rw [hw0]; go_simp
  have hcl1 : Calls Try.prog 52 #[.pointer (some ⟨w.heap.size, 0, none⟩)] (w0.setCell ⟨b, off + 1, none⟩ (.int .i32 1)) fun e w' => e = .returned (.tuple #[]) ∧ w' = setT (w0.setCell ⟨b, off + 1, none⟩ (.int .i32 1)) b (off + 3) 256 :=
    get1_any _ b off _ ((World.cell?_setCell_other _ _ _ _ (by simp <;> omega)).trans hpl) (by simp <;> omega)
      (fun j hj => by rw [World.cell?_setCell_other _ _ _ _ (by simp <;> omega), hcl]; exact h.there j hj) (fun j hj => by rw [World.frozen?_setCell, hfl, Nat.add_assoc]; exact h.free (3 + j) (by omega))
  have hdo := do_first b off ⟨w.heap.size, 0, none⟩ w0 (fun w' => w' = setT (w0.setCell ⟨b, off + 1, none⟩ (.int .i32 1)) b (off + 3) 256)
    ((hcl _).trans h.flag) ((hcl _).trans h.mu) ((hfl _).trans (h.free 1 (by omega))) hcl1 (by
      rintro _ rfl
      refine ⟨?_, ?_, ?_, ?_⟩
      · rw [setT_cell_out (.inr (.inl (by simp))), World.cell?_setCell_other _ _ _ _ (by simp), hcl]; exact h.flag
      · rw [setT_cell_out (.inr (.inl (by simp)))]; exact World.cell?_setCell_same _ _ _ ((hcl _).trans h.mu)
      · rw [setT_frozen, World.frozen?_setCell, hfl]; exact h.free 0 (by omega)
      · rw [setT_frozen, World.frozen?_setCell, hfl]; exact h.free 1 (by omega))
  have HT := Lib.hid h
  have HD := Lib.hid hdo
  have HW := Lib.hid hw0
  have HC := Lib.hid hcl
  have HF := Lib.hid hfl
  have HS0 := Lib.hid hsz0
  clear h hdo hw0 hcl hfl hcl1 hpl hsz0
  go_enter Try.func42, Try.ntmps42
  go_wp2_with fail
  rw [← HW.out]
  refine HD.out.mono ?_
  rintro e w' ⟨rfl, w1, hw1, hw2⟩
  have hcell : ∀ x : Addr, (x.block ≠ b ∨ x.off < off + 3 ∨ off + 259 ≤ x.off) → x ≠ ⟨b, off, none⟩ → x ≠ ⟨b, off + 1, none⟩ → w'.cell? x = w0.cell? x := by
    intro x h1 h2 h3
    rw [hw2, World.cell?_setCell_other _ _ _ _ (Ne.symm h3), World.cell?_setCell_other _ _ _ _ (Ne.symm h2), World.cell?_drew, hw1]
    rw [setT_cell_out (by omega), World.cell?_setCell_other _ _ _ _ (Ne.symm h3)]
  have hfr : ∀ x : Addr, w'.frozen? x = w0.frozen? x := by
    intro x
    rw [hw2, World.frozen?_setCell, World.frozen?_setCell, World.frozen?_drew, hw1, setT_frozen, World.frozen?_setCell]
  have hsz : w'.heap.size = w0.heap.size := by
    rw [hw2]; simp; rw [hw1, setT_size]; simp
  have hpl : w'.cell? ⟨w.heap.size, 0, none⟩ = some (.pointer (some ⟨b, off, none⟩)) := by
    rw [hcell _ (.inl (by simp <;> omega)) (by simp <;> omega) (by simp <;> omega), HW.out]; go_simp
  have hbel : Below b w w' := by
    rw [hw2]
    refine Below.setCell (B := b) (Below.setCell (B := b) (Below.drew ?_) (by exact Nat.le_refl b) _) (by exact Nat.le_refl b) _
    rw [hw1]
    exact below_setCells (Nat.le_refl b) _ _ _ (Below.setCell hb0 (by exact Nat.le_refl b) _)
  have hc1 : ∀ (w2 : World) (x : Addr) (u : Value), (w2.cell? x).isSome = true → (w2.setCell x u).cell? x = some u := fun w2 x u hx => by
    obtain ⟨v, hv⟩ := Option.isSome_iff_exists.1 hx
    exact World.cell?_setCell_same _ _ _ hv
  have hT : Tb w' b off true := by
    refine ⟨by rw [hsz, HS0.out]; omega, fun j hj => ?_, ?_, ?_, fun j hj => ?_, fun _ j hj => ?_⟩
    · rw [hfr, HF.out]; exact HT.out.free j hj
    · rw [hw2, World.cell?_setCell_other _ _ _ _ (by simp)]
      refine hc1 _ _ _ ?_
      rw [World.cell?_drew, hw1, setT_cell_out (.inr (.inl (by simp))), World.cell?_setCell_other _ _ _ _ (by simp), HC.out, HT.out.flag]; rfl
    · rw [hw2]
      refine hc1 _ _ _ ?_
      rw [World.cell?_setCell_other _ _ _ _ (by simp), World.cell?_drew, hw1, setT_cell_out (.inr (.inl (by simp))), hc1 _ _ _ (by rw [HC.out, HT.out.mu]; rfl)]; rfl
    all_goals
      have hin : w'.cell? ⟨b, off + 3 + j, none⟩ = some (.int .u32 (Crc.bits8 j : Int)) := by
        rw [hw2, World.cell?_setCell_other _ _ _ _ (by simp <;> omega), World.cell?_setCell_other _ _ _ _ (by simp <;> omega), World.cell?_drew, hw1]
        exact setT_cell_in (fun i hi => by rw [World.cell?_setCell_other _ _ _ _ (by simp <;> omega), HC.out]; exact HT.out.there i hi) hj
    · rw [hin]; rfl
    · exact hin
  have HH : Hid (Got w w' b off) := ⟨hT, hbel, fun o ho => by rw [hcell _ (.inr (.inl (by simp <;> omega))) (by simp <;> omega) (by simp <;> omega), HC.out], fun o => by rw [hfr, HF.out]⟩
  clear hT hbel hcell hfr hsz hw1 hw2 hc1 hb0
  go_wp2
  go_ret
  exact ⟨rfl, HH.out⟩

theorem get_any (b off : Nat) (d : Bool) (w : World) (h : Tb w b off d) : Calls Try.prog 42 #[.pointer (some ⟨b, off, none⟩)] w fun e w' => e = .returned (.pointer (some ⟨b, off + 3, none⟩)) ∧ Got w w' b off := by
  cases d
  · exact get_first b off w h
  · exact get_done b off w h
end Go.Proofs.Ytcoilgfjabnoeaa
