/- LexParses: any text is the tokens that the document says, or goes wrong where and as it says. -/
import Derived.Test.YthabfgpncebigaaDoorBM
namespace Go.Proofs.YthabfgpncebigaaDoor
open Go.RowKit

set_option maxRecDepth 100000 in
set_option maxHeartbeats 2000000 in
theorem lexparses_law (l : List UInt8) (m : Int) (w : World) (hw : LexW m w) : Calls Tryd.prog 3 #[.string (str l)] w fun e w' => e = .returned (.bool true) ∧ Below w.heap.size w w' := by
  have hwk := lwakes_any m w hw
  go_enter Tryd.func3, Tryd.ntmps3
  go_wp2_with fail
  refine hwk.mono ?_
  rintro e w2 ⟨rfl, hB⟩
  have hW2 := hw.below hB
  clear hwk
  by_cases h15 : (1500 : Int) < l.length
  · go_wp2
    go_returns
    exact ⟨rfl, hB⟩
  · have hp := lparse_any l m w2 hW2 (by omega)
    have hr := fun W => rparse11_any l W (by omega)
    generalize Lx.walk 0 l = x at *
    obtain ⟨toks, pa, er⟩ := x
    go_wp2_with fail
    refine hp.mono ?_
    rintro e w3 ⟨A, n, c, rfl, hrow, hB3⟩
    clear hp
    go_wp2_with fail
    refine (hr _).mono ?_
    rintro e w4 ⟨A2, n2, c2, rfl, hrow4, hB4⟩
    have hrow3 := own_keep hrow hB4
    have hBB := (hB.trans (hB3.mono hB.size)).trans (hB4.mono (Nat.le_trans hB.size hB3.size))
    clear hr hrow
    simp only at hrow3 hrow4
    have e1 : (pa != pa) = false := by simp
    have e2 : ((er : Int) != (er : Int)) = false := by simp
    have hlt4 := hBB.size
    by_cases he : er = 0
    · subst he
      rw [if_pos rfl] at hrow3
      have hwh := fun W ha hb => whole_same toks A A2 n c n2 c2 W ha hb
      have ha := (Rd.of_own hrow3).alloc (.cells #[.slice A2 n2 c2, .int .i64 pa, .int .i64 0] 28)
      have hb := (Rd.of_own hrow4).alloc (.cells #[.slice A2 n2 c2, .int .i64 pa, .int .i64 0] 28)
      clear hrow3 hrow4
      go_wp2_with fail
      refine (hwh _ ha hb).mono ?_
      rintro e w5 ⟨rfl, hB5⟩
      clear hwh ha hb
      go_wp2_with fail
      go_returns
      exact ⟨rfl, (hBB.alloc hlt4 _).trans (hB5.mono (by simp; omega))⟩
    · have heb : ((er : Int) != 0) = true := by simp; omega
      rw [if_neg he] at hrow3
      obtain rfl : n = 0 := by
        have := hrow3.1
        simp [tval] at this
        omega
      clear hrow3 hrow4
      go_wp2_with fail
      go_returns
      exact ⟨rfl, hBB.alloc hlt4 _⟩
end Go.Proofs.YthabfgpncebigaaDoor
