/- A world behind a call of which only 'Below' is known: the blocks that were there stay written out, however many blocks come behind. No program in sight. -/
import Derived.WalkKit
import Derived.Lib.QuietBelow
namespace Go.Proofs.Ytcoilgfjabnoeaa
open Go.RowKit

/-- w with another count of draws, and blocks behind it. -/
def later (w : World) (d : Nat) (os : Array Obj) : World := { w with heap := w.heap ++ os, drawn := d }
/-- How many blocks a world has, reckoned by its form. -/
class Sz (w : World) (n : outParam Nat) : Prop where
  eq : w.heap.size = n
/-- Block n is there, by the world's form. -/
class Lt (n : Nat) (w : World) : Prop where
  lt : n < w.heap.size
theorem later_block (w : World) (d : Nat) (os : Array Obj) {n : Nat} (h : n < w.heap.size) : (later w d os).heap[n]? = w.heap[n]? := by
  simp [later, Array.getElem?_append, h]
@[go_sem, simp] theorem later_size (w : World) (d : Nat) (os : Array Obj) : (later w d os).heap.size = w.heap.size + os.size := by simp [later]
section
variable {w : World} {n d : Nat} {os : Array Obj} {a : Addr} {v : Value} {o : Obj}
instance (priority := low) sz_base : Sz w w.heap.size := ⟨rfl⟩
instance sz_alloc [h : Sz w n] : Sz (w.alloc o) (n + 1) := ⟨by simp [h.eq]⟩
instance sz_later [h : Sz w n] : Sz (later w d os) (n + os.size) := ⟨by simp [h.eq]⟩
instance sz_set [h : Sz w n] : Sz (w.setCell a v) n := ⟨by simp [h.eq]⟩
instance sz_drew [h : Sz w n] : Sz w.drew n := ⟨h.eq⟩
instance lt_new [h : Sz w n] : Lt n (w.alloc o) := ⟨by simp [h.eq]⟩
instance lt_alloc [h : Lt n w] : Lt n (w.alloc o) := ⟨by have := h.lt; simp; omega⟩
instance lt_later [h : Lt n w] : Lt n (later w d os) := ⟨by have := h.lt; simp; omega⟩
instance lt_set [h : Lt n w] : Lt n (w.setCell a v) := ⟨by simpa using h.lt⟩
instance lt_drew [h : Lt n w] : Lt n w.drew := ⟨h.lt⟩
end
section
variable (w : World) (d : Nat) (os : Array Obj) (n i : Nat) (o : Obj) (v : Value)
@[go_sem] theorem later_cell [h : Lt n w] : (later w d os).cell? ⟨n, i, none⟩ = w.cell? ⟨n, i, none⟩ := World.cell?_of_block (later_block w d os h.lt)
@[go_sem] theorem later_frozen [h : Lt n w] : (later w d os).frozen? ⟨n, i, none⟩ = w.frozen? ⟨n, i, none⟩ := World.frozen?_of_block (later_block w d os h.lt)
@[go_sem] theorem later_setCell [h : Lt n w] : (later w d os).setCell ⟨n, i, none⟩ v = later (w.setCell ⟨n, i, none⟩ v) d os := by
  have h := h.lt
  unfold later World.setCell
  congr 1
  apply Array.ext
  · simp
  · intro j h1 h2
    simp only [Array.getElem_modify, Array.getElem_append]
    by_cases hj : j < w.heap.size
    · simp [hj]
    · have : n ≠ j := by omega
      simp [hj, this]
@[go_sem] theorem later_drew : (later w d os).drew = later w (d + 1) os := rfl
@[go_sem] theorem lt_cell [h : Lt n w] : (w.alloc o).cell? ⟨n, i, none⟩ = w.cell? ⟨n, i, none⟩ := World.cell?_alloc_past o n i h.lt
@[go_sem] theorem lt_frozen [h : Lt n w] : (w.alloc o).frozen? ⟨n, i, none⟩ = w.frozen? ⟨n, i, none⟩ := World.frozen?_alloc_past o n i h.lt
@[go_sem] theorem lt_setCell [h : Lt n w] : (w.alloc o).setCell ⟨n, i, none⟩ v = (w.setCell ⟨n, i, none⟩ v).alloc o := World.setCell_alloc_past o n i v h.lt
@[go_sem] theorem sz_cell (c : Array Value) (t : TypeId) [h : Sz w n] : (w.alloc (.cells c t)).cell? ⟨n, i, none⟩ = c[i]? := World.cell?_alloc_at c t n i h.eq.symm
@[go_sem] theorem sz_frozen (c : Array Value) (t : TypeId) [h : Sz w n] : (w.alloc (.cells c t)).frozen? ⟨n, i, none⟩ = false := World.frozen?_alloc_at c t n i h.eq.symm
@[go_sem] theorem sz_setCell (c : Array Value) (t : TypeId) [h : Sz w n] : (w.alloc (.cells c t)).setCell ⟨n, i, none⟩ v = w.alloc (.cells (c.setIfInBounds i v) t) := World.setCell_alloc_at c t n i v h.eq.symm
theorem below_later : Below w.heap.size w (later w d os) := ⟨rfl, rfl, rfl, by simp, fun _ h => later_block w d os h⟩
end
theorem later_of_below {w w' : World} (h : Below w.heap.size w w') : ∃ d os, w' = later w d os := by
  obtain ⟨p, rfl⟩ := regrown_of_below h
  exact ⟨p.d, p.os, rfl⟩
/-- What was below stays below. -/
theorem below_later' {B : Nat} {a w : World} (h : Below B a w) (hB : B ≤ w.heap.size) (d : Nat) (os : Array Obj) : Below B a (later w d os) := h.trans ((below_later w d os).mono hB)
end Go.Proofs.Ytcoilgfjabnoeaa
