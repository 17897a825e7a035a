/- A slice of Ops that came in, opened. -/
import Derived.Test.YtcoilgfjabnoeaaFl4
import Derived.Deep.SlicePairs
import Derived.OpenShut
namespace Go.Proofs.Ytcoilgfjabnoeaa
open Go.RowKit

theorem ops_of_open {H : Type} {enc : TypeId × Value → H} {W : World} {base fuel : Nat} {held : Bool} {a : Option Addr} {len cap : Nat} {x : DataW H × List MemPlace}
    (h : DataW.trod enc Try.prog W base (fun _ => true) held fuel 48 (Value.slice a len cap).cells.toList = some x) :
    ∃ ops : List (Nat × Int), Rd W 2 a len cap (opv ops) ∧ ∀ o ∈ ops, o.1 < 256 ∧ -9223372036854775808 ≤ o.2 ∧ o.2 ≤ 9223372036854775807 := by
  rcases Deep.open_slice_pairs Try.underlying48 Try.underlying54 (by kernel_rfl) rfl rfl (by kernel_rfl) (by kernel_rfl) h with ⟨hcs, _⟩ | ⟨a', len', cap', m, n, V0, V1, D0, D1, P0, P1, hcs, _, hl, hm, hmm, _, hx⟩
  · simp [Value.cells] at hcs
    obtain ⟨rfl, rfl, rfl⟩ := hcs
    exact ⟨[], Rd.nil W 2, by simp⟩
  · simp [Value.cells] at hcs
    obtain ⟨rfl, rfl, rfl⟩ := hcs
    simp at hmm
    subst hmm
    have each : ∀ i, i < m → ∃ o : Nat × Int, (o.1 < 256 ∧ -9223372036854775808 ≤ o.2 ∧ o.2 ≤ 9223372036854775807) ∧ W.cell? (a'.add (i * 2)) = some (.int .u8 (o.1 : Int)) ∧ W.cell? (a'.add (i * 2 + 1)) = some (.int .i64 o.2) := fun i hi => by
      obtain ⟨h0, h1, h2, h3⟩ := hx i hi
      obtain ⟨n0, g0, k0, w0⟩ := DataW.trod_int Try.underlying5 h2
      obtain ⟨n1, g1, k1, w1⟩ := DataW.trod_int Try.underlying3 h3
      simp at g0 g1
      obtain ⟨b, rfl, hb⟩ := wf_byte w0
      exact ⟨(b, n1), ⟨hb, (wf_i64 w1).1, (wf_i64 w1).2⟩, by rw [h0, g0], by rw [h1, g1]⟩
    obtain ⟨o, ho⟩ := Deep.choose_lt each
    refine ⟨(List.range len).map o, ⟨by rw [opv_length]; simp, hl, hm, fun hn => ⟨a', rfl, ?_, fun j u hu => ?_⟩⟩, fun q hq => ?_⟩
    · have := World.block_lt_of_cell? W _ (ho 0 (by omega)).2.1
      rwa [block_of_add] at this
    · have hj : j < len * 2 := by
        have := (List.getElem?_eq_some_iff.1 hu).1
        rw [opv_length] at this
        simpa using this
      have hk : j / 2 < ((List.range len).map o).length := by simp; omega
      obtain ⟨e1, e2⟩ := opv_get hk
      simp only [List.getElem_map, List.getElem_range] at e1 e2
      rcases Nat.mod_two_eq_zero_or_one j with hj2 | hj2
      · rw [show j / 2 * 2 = j by omega, hu] at e1
        rw [show j = j / 2 * 2 by omega, (ho (j / 2) (by omega)).2.1, e1]
      · rw [show j / 2 * 2 + 1 = j by omega, hu] at e2
        rw [show j = j / 2 * 2 + 1 by omega, (ho (j / 2) (by omega)).2.2, e2]
    · obtain ⟨i, hi, rfl⟩ := List.mem_map.1 hq
      have := List.mem_range.1 hi
      exact (ho i (by omega)).1
end Go.Proofs.Ytcoilgfjabnoeaa
