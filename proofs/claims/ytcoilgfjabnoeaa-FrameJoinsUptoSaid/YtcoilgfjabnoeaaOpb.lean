/- A slice of slices of bytes that came in, opened, and how much it holds. -/
import Derived.Test.YtcoilgfjabnoeaaRows
import Derived.Test.YtcoilgfjabnoeaaOpr
import Derived.Test.YtcoilgfjabnoeaaFl3
namespace Go.Proofs.Ytcoilgfjabnoeaa
open Go.RowKit

theorem bulk_one {H : Type} (d : DataW H) : 1 ≤ Rows.uptoBulk d := by
  cases d with
  | lit l => cases l <;> simp [Rows.uptoBulk]
  | nil => simp [Rows.uptoBulk]
  | ptr d => simp [Rows.uptoBulk]
  | slice elems spare => simp [Rows.uptoBulk]
  | agg parts => simp [Rows.uptoBulk]
  | iface t d => simp [Rows.uptoBulk]
  | map entries => simp [Rows.uptoBulk]
  | held h => simp [Rows.uptoBulk]
theorem bulk_len {H : Type} (l : List (DataW H)) : l.length ≤ Rows.uptoBulkAll l := by
  induction l with
  | nil => simp [Rows.uptoBulkAll]
  | cons x r ih => have := bulk_one x; simp only [Rows.uptoBulkAll, List.length_cons]; omega
theorem tot_le_bulk {H : Type} : ∀ (ls : List (List UInt8)) (ds : List (DataW H)), ls.length = ds.length → (∀ r (h1 : r < ls.length) (h2 : r < ds.length), ls[r].length + 1 ≤ Rows.uptoBulk ds[r]) → tot ls ≤ Rows.uptoBulkAll ds
  | [], _, _, _ => by simp [tot]
  | b :: ls, [], h, _ => by simp at h
  | b :: ls, d :: ds, h, hh => by
    have h0 := hh 0 (by simp) (by simp)
    have ih := tot_le_bulk ls ds (by simpa using h) (fun r h1 h2 => by
      have := hh (r + 1) (by simp; omega) (by simp; omega)
      simpa using this)
    simp only [List.getElem_cons_zero] at h0
    simp only [tot, Rows.uptoBulkAll]
    omega
theorem Bss.lens {w : World} {A : Option Addr} {n c : Nat} {ls : List (List UInt8)} (h : Bss w A n c ls) {r : Nat} (hr : r < ls.length) : ∃ a B m d, A = some a ∧ w.cell? (a.add r) = some (.slice B m d) ∧ ls[r].length = m := by
  obtain ⟨a, rfl⟩ := h.addr (by have := h.len; omega)
  obtain ⟨B, m, d, hc, hb⟩ := h.cell hr
  exact ⟨a, B, m, d, rfl, hc, hb.len.symm⟩
theorem bss_of_open_bulk {H : Type} {enc : TypeId × Value → H} {W : World} {base fuel : Nat} {held : Bool} {a : Option Addr} {len cap : Nat} {x : DataW H × List MemPlace}
    (h : DataW.trod enc Try.prog W base (fun _ => true) held fuel 36 (Value.slice a len cap).cells.toList = some x) : ∃ ls, Bss W a len cap ls ∧ tot ls ≤ Rows.uptoBulk x.1 := by
  obtain ⟨ls, hb⟩ := bss_of_open h
  refine ⟨ls, hb, ?_⟩
  rcases Deep.open_int_rows Try.underlying36 Try.underlying22 Try.underlying5 (by kernel_rfl) (by kernel_rfl) h with ⟨hcs, _⟩ | ⟨a', len', cap', A, L, C, Z, hcs, _, hl, hm, hx, hr⟩
  · simp [Value.cells] at hcs
    obtain ⟨rfl, rfl, rfl⟩ := hcs
    have : ls = [] := List.eq_nil_of_length_eq_zero hb.len.symm
    subst this
    simp [tot]
  · simp [Value.cells] at hcs
    obtain ⟨rfl, rfl, rfl⟩ := hcs
    rw [hx]
    have hn := hb.len
    have key : tot ls ≤ Rows.uptoBulkAll ((List.range len).map fun r => Deep.intRow (H := H) .u8 (A r) (L r) (Z r)) := by
      refine tot_le_bulk _ _ (by simp; omega) (fun r h1 h2 => ?_)
      obtain ⟨a2, B, m, d, e, hc, hlen⟩ := hb.lens h1
      cases e
      obtain ⟨c1, c2, c3, c4, c5, c6, c7⟩ := hr r (by omega)
      rw [c1] at hc
      injection hc with hc
      injection hc with e1 e2 e3
      simp only [List.getElem_map, List.getElem_range]
      rw [hlen, ← e2]
      cases hA : A r with
      | none =>
        have := c6 hA
        simp [Deep.intRow, Rows.uptoBulk]; omega
      | some a3 =>
        simp only [Deep.intRow, Rows.uptoBulk]
        have := bulk_len (ChangeShapes.lits (H := H) .u8 ((Z r).take (L r)))
        have e : (ChangeShapes.lits (H := H) .u8 ((Z r).take (L r))).length = L r := by simp [ChangeShapes.lits]; omega
        omega
    simp only [Rows.uptoBulk]
    omega
end Go.Proofs.Ytcoilgfjabnoeaa
