/- crc.Table. -/
import Derived.Test.YtcoilgfjabnoeaaCrcw
import Derived.Deep.MidRow
namespace Go.Proofs.Ytcoilgfjabnoeaa
open Go.RowKit

theorem zero87_size : Try.zeroCells87.size = 259 := by kernel_rfl
theorem zero87_0 : Try.zeroCells87[0]? = some (.int .u32 0) := by kernel_rfl
theorem zero87_1 : Try.zeroCells87[1]? = some (.int .i32 0) := by kernel_rfl
theorem zero32_size : Try.zeroCells32.size = 256 := by kernel_rfl
theorem info32 : (Try.prog.info? 32).map (·.size) = some 256 := by kernel_rfl
theorem results_cell_mid {P : Program} {fn : Func} {p : Tmp} {ty : TypeId} (h : fn.results = #[.cell p ty]) (tmps : Array Value) (w : World) (b o : Nat) (cs : List Value) (d : TypeDesc)
    (hp : tmps.getD p undef = .pointer (some ⟨b, o, none⟩)) (hc : w.rangeAt b o cs) (hu : P.underlying ty = some d) (hd : d.isRow = true) (hi : (P.info? ty).map (·.size) = some cs.length) :
    (results fn tmps).run P w = .ok (.agg cs.toArray) w := by
  have hp' : tmps[p]?.getD undef = .pointer (some ⟨b, o, none⟩) := by simpa using hp
  simp [results, h, hp', asAddr, run_loadVar_mid w b o ty cs d hc hu hd hi]

set_option maxHeartbeats 1000000 in
set_option maxRecDepth 100000 in
theorem table_any (w : World) : Calls Try.prog 18 #[] w fun e w' => e = .returned (.agg (tabv 256).toArray) ∧ Below w.heap.size w w' := by
  have hl : (tabv 256).length = 256 := tabv_length 256
  have h1 : ∀ v ∈ tabv 256, v.oneCell' = true := by
    intro v hv
    obtain ⟨i, _, rfl⟩ := List.mem_map.1 hv
    rfl
  have hall := all_oneCell_toArray h1
  have hinfo : (Try.prog.info? 32).map (·.size) = some (tabv 256).length := by rw [hl]; exact info32
  have hinfo2 : (Try.prog.info? 32).map (·.size) = some (tabv 256).toArray.size := by rw [List.size_toArray]; exact hinfo
  have HH := Lib.hid (And.intro hl (And.intro hall (And.intro hinfo hinfo2)))
  have H1 := Lib.hid h1
  clear hl h1 hall hinfo hinfo2
  go_enter Try.func18, Try.ntmps18
  go_wp2_with fail
  obtain ⟨w1, hw1⟩ : ∃ w1, w1 = (w.alloc (.cells Try.zeroCells32 32)).alloc (.cells Try.zeroCells87 87) := ⟨_, rfl⟩
  have hT : Tb w1 (w.heap.size + 1) 0 false := by
    rw [hw1]
    refine tb_of_row (cs := Try.zeroCells87) (t := 87) ?_ zero87_0 zero87_1 (by rw [zero87_size]; decide)
    have := heap_alloc_new (w.alloc (.cells Try.zeroCells32 32)) (.cells Try.zeroCells87 87)
    simpa using this
  have hB1 : Below w.heap.size w w1 := by rw [hw1]; exact ((Below.refl _ _).alloc (Nat.le_refl _) _).alloc (by simp) _
  have hr1 : w1.heap[w.heap.size]? = some (.cells Try.zeroCells32 32) := by
    rw [hw1, Below.heap_alloc _ _ _ (by simp)]
    exact heap_alloc_new w _
  rw [← hw1]
  clear hw1
  refine (get_any (w.heap.size + 1) 0 false w1 hT).mono ?_
  rintro e w2 ⟨rfl, hg⟩
  have hr2 : w2.heap[w.heap.size]? = some (.cells Try.zeroCells32 32) := by rw [hg.below.block _ (by omega)]; exact hr1
  have hrange : w2.rangeAt (w.heap.size + 1) 3 (tabv 256) := fun j v hv => by
    have hj : j < (tabv 256).length := (List.getElem?_eq_some_iff.1 hv).1
    have := hg.tb.made rfl j (by rw [tabv_length] at hj; exact hj)
    rw [show 0 + 3 + j = 3 + j by omega] at this
    rw [this, ← hv, List.getElem?_eq_getElem hj, tabv_get]
  have hthere : w2.there w.heap.size 0 256 := fun j hj => ⟨by rw [cell_of_row _ _ _ _ _ _ hr2]; simp; omega, frozen_of_row _ _ _ _ _ hr2⟩
  have hB2 : Below w.heap.size w w2 := hB1.trans (hg.below.mono (by omega))
  have hst : (storeCells ⟨w.heap.size, 0, none⟩ (tabv 256)).run Try.prog w2 = .ok () (w2.setCells w.heap.size 0 (tabv 256)) :=
    run_storeCells_cells (P := Try.prog) w.heap.size 0 (tabv 256) 0 w2 (fun j hj => by have := (hthere j (by rw [HH.out.1] at hj; exact hj)).1; simpa using this) (fun j hj => by have := (hthere j (by rw [HH.out.1] at hj; exact hj)).2; simpa using this) H1.out
  have HX := Lib.hid (And.intro hrange (And.intro hthere hB2))
  clear hrange hthere hB2 hB1 hT hg hr1 hr2
  go_wp2_with (
    (refine wpList_load_mid (op := ⟨some 4, _, _, _, _, _⟩) rfl _ _ rfl (w.heap.size + 1) 3 rfl (tabv 256) _ HX.out.1 Try.underlying32 rfl HH.out.2.2.1 ?_))
  refine bodyPost_ret (results_cell_mid rfl _ _ w.heap.size 0 (tabv 256) _ rfl (World.rangeAt_setCells_same _ _ _ _ (by rw [HH.out.1]; exact HX.out.2.1)) Try.underlying32 rfl HH.out.2.2.1) rfl ?_
  exact ⟨rfl, below_setCells (Nat.le_refl _) _ _ _ HX.out.2.2⟩
end Go.Proofs.Ytcoilgfjabnoeaa
