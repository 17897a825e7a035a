/- utf.forms: what the row's list gives of it: twelve numbers, cell by cell. -/
import Derived.Test.YtpoameaaoapiiaaDoorRows
import Derived.Test.YtpoameaaoapiiaaDoorBase
import Derived.OpenShut
import Derived.Lib.LaidTab
import Derived.Deep.Strs
namespace Go.Proofs.YtpoameaaoapiiaaDoor
open Go.RowKit

/-- The table's numbers. -/
def formsL : List Int := [128, 0, 0, 2048, 192, 1, 65536, 224, 2, 1114112, 240, 3]
/-- The table lies where it lies, and reads as it stands in the text. -/
def Forms (w : World) : Prop := 0 < w.heap.size ∧ ∀ j, j < 12 → w.cell? ⟨0, j, none⟩ = some (.int .i64 (formsL.getD j 0))

theorem Forms.below {w w' : World} (h : Forms w) (hb : Below w.heap.size w w') : Forms w' := ⟨Nat.lt_of_lt_of_le h.1 hb.size, fun j hj => (hb.cell (p := ⟨0, j, none⟩) h.1).trans (h.2 j hj)⟩
theorem Forms.alloc {w : World} (h : Forms w) (o : Obj) : Forms (w.alloc o) := h.below ((Below.refl _ _).alloc (Nat.le_refl _) o)
theorem Forms.drewN {w : World} (h : Forms w) (n : Nat) : Forms (w.drewN n) := h
theorem Forms.drew {w : World} (h : Forms w) : Forms w.drew := h

theorem form_cells {H : Type} {enc : TypeId × Value → H} {w : World} {base : Nat} {sp : Nat → Bool} {held : Bool} {fuel : Nat} {cs : List Value} {a b c : Int} {p : List MemPlace}
    (h : DataW.trod enc Tryd.prog w base sp held fuel 71 cs = some (.agg [.lit (.int .i64 a), .lit (.int .i64 b), .lit (.int .i64 c)], p)) (hl : cs.length = 3) : cs = [.int .i64 a, .int .i64 b, .int .i64 c] := by
  match cs, hl with
  | [u, v, x], _ =>
    obtain ⟨y0, y1, y2, n, hx, _, h0, h1, h2⟩ := Go.Deep.trod_struct3 Tryd.underlying71 h
    simp only [Prod.mk.injEq, DataW.agg.injEq, List.cons.injEq, and_true] at hx
    obtain ⟨⟨e0, e1, e2⟩, -⟩ := hx
    have hc : Tryd.prog.cellsOf 3 = 1 := by kernel_rfl
    simp only [hc] at h0 h1 h2
    obtain ⟨n0, g0, k0, -⟩ := DataW.trod_int Tryd.underlying3 h0
    obtain ⟨n1, g1, k1, -⟩ := DataW.trod_int Tryd.underlying3 h1
    obtain ⟨n2, g2, k2, -⟩ := DataW.trod_int Tryd.underlying3 h2
    rw [k0] at e0; rw [k1] at e1; rw [k2] at e2
    cases e0; cases e1; cases e2
    simp at g0 g1 g2
    rw [g0, g1, g2]

theorem forms_of_laid {W : World} (h : laidMetH Tryd.prog [("tabularium/utf.forms", Rows.laid_tabularium_utf_forms)] W) : Forms W := by
  obtain ⟨ps, ⟨g', t', cs, fuel, p, q, hg', ht', hvar, hd, _, _⟩, _⟩ := h
  have hg : Tryd.prog.globalNamed "tabularium/utf.forms" = some 0 := by kernel_rfl
  have ht : (Tryd.prog.globals[(0 : Nat)]?).map (·.type) = some 72 := by kernel_rfl
  obtain rfl := Option.some.inj (hg.symm.trans hg')
  obtain rfl := Option.some.inj (ht.symm.trans ht')
  obtain ⟨xs, m, rfl, hx, hl, hxl, he⟩ := DataW.trod_array Tryd.underlying72 hd
  have hc12 : Tryd.prog.cellsOf 72 = 12 := by kernel_rfl
  have hc3 : Tryd.prog.cellsOf 71 = 3 := by kernel_rfl
  rw [hc12] at hl
  simp only [hc3] at he
  match xs, hxl with
  | [x0, x1, x2, x3], _ =>
    simp only [Rows.laid_tabularium_utf_forms, Prod.mk.injEq, DataW.agg.injEq, List.map_cons, List.map_nil, List.cons.injEq, and_true] at hx
    obtain ⟨⟨e0, e1, e2, e3⟩, -⟩ := hx
    have h0 := he 0 (by omega)
    have h1 := he 1 (by omega)
    have h2 := he 2 (by omega)
    have h3 := he 3 (by omega)
    obtain ⟨d0, p0⟩ := x0
    obtain ⟨d1, p1⟩ := x1
    obtain ⟨d2, p2⟩ := x2
    obtain ⟨d3, p3⟩ := x3
    simp only at e0 e1 e2 e3
    subst e0 e1 e2 e3
    have c0 := form_cells h0 (by rw [List.length_take, List.length_drop, hl]; decide)
    have c1 := form_cells h1 (by rw [List.length_take, List.length_drop, hl]; decide)
    have c2 := form_cells h2 (by rw [List.length_take, List.length_drop, hl]; decide)
    have c3 := form_cells h3 (by rw [List.length_take, List.length_drop, hl]; decide)
    have hcs : cs.toList = formsL.map (Value.int .i64) := by
      have e : cs.toList = (cs.toList.drop (0 * 3)).take 3 ++ ((cs.toList.drop (1 * 3)).take 3 ++ ((cs.toList.drop (2 * 3)).take 3 ++ (cs.toList.drop (3 * 3)).take 3)) := by
        have s : ∀ (l : List Value), l.length = 12 → l = (l.drop (0 * 3)).take 3 ++ ((l.drop (1 * 3)).take 3 ++ ((l.drop (2 * 3)).take 3 ++ (l.drop (3 * 3)).take 3)) := fun l hl => by
          match l, hl with
          | [_, _, _, _, _, _, _, _, _, _, _, _], _ => rfl
        exact s _ hl
      rw [e, c0, c1, c2, c3]
      rfl
    have hlt : 0 < W.heap.size := by
      refine Nat.lt_of_not_le fun hh => ?_
      have := World.var?_cell hg hvar 0
      rw [World.cell?, Array.getElem?_eq_none hh] at this
      have h2 : cs[0]? = cs.toList[0]? := by simp
      rw [h2, hcs] at this
      simp [formsL] at this
    refine ⟨hlt, fun j hj => ?_⟩
    have := World.var?_cell hg hvar j
    rw [this]
    have h2 : cs[j]? = cs.toList[j]? := by simp
    rw [h2, hcs, List.getElem?_map, List.getD_eq_getElem?_getD, List.getElem?_eq_getElem (by simpa [formsL] using hj)]
    rfl
end Go.Proofs.YtpoameaaoapiiaaDoor
