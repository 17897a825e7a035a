/- A slice of slices of bytes that came in, opened. -/
import Derived.Test.YtcoilgfjabnoeaaEls
import Derived.Deep.Matrix
namespace Go.Proofs.Ytcoilgfjabnoeaa
open Go.RowKit

theorem rows_of {W : World} {a : Addr} {len cap : Nat} (A : Nat → Option Addr) (L C : Nat → Nat) (hl : len ≤ cap) (hm : cap ≤ maxLen) (hlt : 0 < len → a.block < W.heap.size)
    (hc : ∀ r, r < cap → W.cell? (a.add r) = some (.slice (A r) (L r) (C r)) ∧ ∃ l, Bs W (A r) (L r) (C r) l) : ∃ ls, Bss W (some a) len cap ls := by
  have hex : ∀ k, k ≤ len → ∃ ls : List (List UInt8), ls.length = k ∧ ∀ r (h : r < ls.length), Bs W (A r) (L r) (C r) ls[r] := by
    intro k
    induction k with
    | zero => intro _; exact ⟨[], rfl, fun r h => by simp at h⟩
    | succ k ih =>
      intro hk
      obtain ⟨ls, h1, h2⟩ := ih (by omega)
      obtain ⟨l, hb⟩ := (hc k (by omega)).2
      refine ⟨ls ++ [l], by simp [h1], fun r h => ?_⟩
      by_cases hr : r < ls.length
      · rw [List.getElem_append_left hr]; exact h2 r hr
      · obtain rfl : r = ls.length := by simp at h; omega
        simp
        rw [h1]; exact hb
  obtain ⟨ls, h1, h2⟩ := hex len (Nat.le_refl _)
  refine ⟨ls, (List.range len).map (fun r => .slice (A r) (L r) (C r)), ⟨by simp, hl, hm, fun h => ⟨a, rfl, hlt h, fun j u hu => ?_⟩⟩, by simp [h1], fun j hj => ?_⟩
  · have hj : j < len := by
      have := (List.getElem?_eq_some_iff.1 hu).1
      simpa using this
    rw [List.getElem?_map, List.getElem?_range hj] at hu
    simp at hu
    rw [← hu]
    exact (hc j (by omega)).1
  · refine ⟨A j, L j, C j, ?_, h2 j hj, fun _ _ _ h => h⟩
    rw [List.getElem?_map, List.getElem?_range (by omega)]
    rfl

theorem bss_of_open {H : Type} {enc : TypeId × Value → H} {W : World} {base fuel : Nat} {held : Bool} {a : Option Addr} {len cap : Nat} {x : DataW H × List MemPlace}
    (h : DataW.trod enc Try.prog W base (fun _ => true) held fuel 36 (Value.slice a len cap).cells.toList = some x) : ∃ ls, Bss W a len cap ls := by
  rcases Deep.open_int_rows Try.underlying36 Try.underlying22 Try.underlying5 (by kernel_rfl) (by kernel_rfl) h with ⟨hcs, _⟩ | ⟨a', len', cap', A, L, C, Z, hcs, _, hl, hm, _, hr⟩
  · simp [Value.cells] at hcs
    obtain ⟨rfl, rfl, rfl⟩ := hcs
    exact ⟨[], Bss.nil W⟩
  · simp [Value.cells] at hcs
    obtain ⟨rfl, rfl, rfl⟩ := hcs
    refine rows_of A L C hl hm (fun h0 => ?_) (fun r hr0 => ?_)
    · have := World.block_lt_of_cell? W _ (hr 0 (by omega)).1
      rwa [block_of_add] at this
    · obtain ⟨c1, c2, c3, c4, c5, c6, c7⟩ := hr r hr0
      refine ⟨c1, ?_⟩
      have hI : IsRow .u8 W (A r) (L r) (C r) (Z r) := by
        cases hA : A r with
        | none =>
          have := c6 hA
          exact .inl ⟨rfl, by omega, this, List.eq_nil_of_length_eq_zero (by omega)⟩
        | some a' => exact .inr ⟨a', rfl, c2, c3, c4, fun i hi => (c7 a' hA).2 i (by omega), c5⟩
      exact hI.bs
end Go.Proofs.Ytcoilgfjabnoeaa
