/- LexCovers: what stands between the tokens of a text is blanks; together they are all of it. -/
import Derived.Test.YthabfgpncebigaaDoorBM
import Derived.Test.YthabfgpncebigaaDoorBO
namespace Go.Proofs.YthabfgpncebigaaDoor
open Go.RowKit

set_option maxRecDepth 100000 in
set_option maxHeartbeats 4000000 in
theorem lexcovers_law (l : List UInt8) (m : Int) (w : World) (hw : LexW m w) : Calls Tryd.prog 4 #[.string (str l)] w fun e w' => e = .returned (.bool true) ∧ Below w.heap.size w w' := by
  have hwk := lwakes_any m w hw
  have hrb := rblank_any
  go_enter Tryd.func4, Tryd.ntmps4
  go_wp2_with fail
  refine hwk.mono ?_
  rintro e w2 ⟨rfl, hB⟩
  have hW2 := hw.below hB
  clear hwk
  by_cases h15 : (1500 : Int) < l.length
  · go_wp2
    go_returns
    exact ⟨rfl, hB⟩
  · have hp := lparse_any l m w2 hW2 (by omega)
    have hC0 : (Lx.walk 0 l).2.2 = 0 → Lx.CovI l (Lx.walk 0 l).1 0 0 := fun h => ⟨Nat.zero_le _, fun _ => ⟨rfl, h⟩, fun h => absurd h (Nat.not_lt_zero _)⟩
    have htn : (Lx.walk 0 l).2.2 = 0 → (Lx.walk 0 l).1.length ≤ l.length := fun h => Lx.toks_le h
    generalize Lx.walk 0 l = x at *
    obtain ⟨toks, pa, er⟩ := x
    simp only at hC0 htn
    go_wp2_with fail
    refine hp.mono ?_
    rintro e w3 ⟨A, n, c, rfl, hrow, hB3⟩
    clear hp
    simp only at hrow
    by_cases he : er = 0
    · subst he
      rw [if_pos rfl] at hrow
      have hC := hC0 rfl
      have hn2 := htn rfl
      obtain rfl : n = toks.length := Rd3.len (Rd.of_own hrow)
      have hBB := hB.trans (hB3.mono hB.size)
      have hB23 := hB3
      have hsz := hB.size
      have hsz3 := hB3.size
      have HC := Lib.hid hC
      clear hC hC0 htn
      go_wp2_with (first
        | (at_builtin
           refine wpList_app_tok rfl _ _ rfl w2.heap.size toks [⟨0, [], l.length⟩] A toks.length c (hrow.alloc _) rfl _ 1 1 (rd_tok_at _ ⟨0, [], l.length⟩ _ rfl) rfl (by omega) (by simp; omega) _ rfl _ rfl ?_
           intro A4 c4 w4 hown4 hg4 hat4))
      have hR4 : Rd w4 3 A4 (toks.length + 1) c4 (tval (toks ++ [⟨0, [], l.length⟩])) := Rd.of_own hown4
      have hB4 : Below w.heap.size w w4 := below_append (hBB.alloc (by omega) (.cells (tokC ⟨0, [], l.length⟩) 33)) (hrow.alloc _) hg4 (by omega) (by simp; omega)
      have hTl : (toks ++ [(⟨0, [], l.length⟩ : Lx.Tok)]).length = toks.length + 1 := by simp
      obtain ⟨T, hT⟩ : ∃ T, T = toks ++ [(⟨0, [], l.length⟩ : Lx.Tok)] := ⟨_, rfl⟩
      have hcs : ∀ k q, Lx.CovI l toks k q → (hk : k < T.length) → ∃ (p : Nat) (t : List UInt8), T[k].p = p ∧ T[k].t = t ∧ q ≤ p ∧ p + t.length ≤ l.length ∧ (l.drop p).take t.length = t ∧ (∀ j, (hj : j < l.length) → q ≤ j → j < p → Lx.blank l[j] = true) ∧ Lx.CovI l toks (k + 1) (p + t.length) := by
        subst hT
        exact fun k q h hk => Lx.cover_step h hk
      rw [← hT] at hR4 hTl
      have HT := Lib.hid hT
      have HCS := Lib.hid hcs
      have HTL := Lib.hid hTl
      clear hT hown4 hg4 hat4 hrow hB3 hB23 hBB hW2 hcs hTl
      go_wp2_with fail
      go_loopg [29, 6] (toks.length + 1) (fun g kv av wr => ∃ (k q : Nat), g = toks.length + 1 - k ∧ kv = .int .i64 k ∧ av = .int .i64 q ∧ k ≤ toks.length + 1 ∧ Hid (Lx.CovI l toks k q) ∧ Rd wr 3 A4 (toks.length + 1) c4 (tval T) ∧ Below w.heap.size w wr)
      case atStart => exact ⟨0, 0, rfl, rfl, rfl, Nat.zero_le _, HC, hR4, hB4⟩
      case round =>
        obtain ⟨k, q, rfl, rfl, rfl, hk, HK, hR, hBr⟩ := hrel
        clear HC hR4 hB4
        by_cases hlt : k < toks.length + 1
        · have d1 : (k : Int) < (toks.length : Int) + 1 := by omega
          have d2 : (k : Int) < ((toks.length + 1 : Nat) : Int) := by omega
          have hkT : k < T.length := by rw [HTL.out]; exact hlt
          obtain ⟨p, t, hp, ht, g1, g2, g3, g4, g5⟩ := HCS.out k q HK.out hkT
          obtain ⟨ad, rfl⟩ := Rd.addr hR (by omega)
          obtain ⟨a0, a1, a2⟩ := Rd3.cells hR hkT
          rw [hp] at a2
          rw [ht] at a1
          generalize T[k].k = tk at *
          have HH := Lib.hid (And.intro g3 (And.intro g4 g5))
          have hq := HK.out.1
          have hRB := Lib.hid (And.intro hR hBr)
          clear hp ht g3 g4 g5 HK HCS hBr
          have e1 : ¬(p : Int) < q := by omega
          have e2 : ¬(l.length : Int) < p := by omega
          have hw1 : IntKind.i64.wrap ((k : Int) + 1) = (k : Int) + 1 := IntWalk.i64_in _ (by omega)
          go_wp2_with fail
          have hb8 := Blk.new wr 33 #[.int .i64 tk, .string (str t), .int .i64 p]
          have hB8 := (Below.refl wr.heap.size wr).alloc (Nat.le_refl _) (.cells #[.int .i64 tk, .string (str t), .int .i64 p] 33)
          generalize wr.alloc (.cells #[.int .i64 tk, .string (str t), .int .i64 p] 33) = WW at *
          have k0 : WW.cell? ⟨wr.heap.size, 0, none⟩ = some (.int .i64 tk) := hb8.cell 0
          have k1 : WW.cell? ⟨wr.heap.size, 1, none⟩ = some (.string (str t)) := hb8.cell 1
          have k2 : WW.cell? ⟨wr.heap.size, 2, none⟩ = some (.int .i64 p) := hb8.cell 2
          have hR8 := Lib.hid (And.intro (hRB.out.1.below hB8) (hRB.out.2.trans (hB8.mono hRB.out.2.size)))
          clear hR a0 a1 a2 hb8 hB8 hRB
          generalize wr.heap.size = tb at *
          go_loopg [6] (p - q) (fun g av wq => ∃ j : Nat, g = p - j ∧ av = .int .i64 j ∧ q ≤ j ∧ j ≤ p ∧ wq = WW)
          case atStart => exact ⟨q, rfl, rfl, Nat.le_refl _, g1, rfl⟩
          case round =>
            obtain ⟨j, rfl, rfl, hj1, hj2, rfl⟩ := hrel
            by_cases hjp : j < p
            · have f1 : (j : Int) < p := by omega
              have f2 : 0 ≤ (j : Int) ∧ (j : Int) < l.length := by omega
              have hjl : j < l.length := by omega
              have hnx : nth l j = (l[j].toNat : Int) := nth_eq hjl
              have hbl := hrb l[j]
              rw [HH.out.2.1 j hjl hj1 hjp] at hbl
              have hw2 : IntKind.i64.wrap ((j : Int) + 1) = (j : Int) + 1 := IntWalk.i64_in _ (by omega)
              generalize (l[j].toNat : Int) = y at *
              go_wp2_with fail
              refine (hbl _).mono ?_
              rintro e w5 ⟨rfl, rfl⟩
              go_wp2_with fail
              go_roundg (p - (j + 1))
              case measure => omega
              case rel => exact ⟨j + 1, rfl, by simp, by omega, by omega, rfl⟩
            · obtain rfl : j = p := by omega
              have hw2 : IntKind.i64.wrap ((j : Int) + t.length) = (j : Int) + t.length := IntWalk.i64_in _ (by omega)
              have f1 : ¬(l.length : Int) < (j : Int) + t.length := by omega
              have f2 : decide ((l.length : Int) < (j : Int) + t.length) = false := decide_eq_false f1
              have f3 : 0 ≤ (j : Int) ∧ (j : Int) ≤ (j : Int) + t.length ∧ (j : Int) + t.length ≤ l.length := by omega
              have f4 : ((j : Int) + t.length).toNat - j = t.length := by omega
              have f5 : (l.drop j).take t.length = t := HH.out.1
              have f6 : (t == t) = true := by simp
              go_wp2_with fail
              go_quiet (fail)
              go_wp2_with fail
              go_roundg (toks.length + 1 - (k + 1))
              case measure => omega
              case rel => exact ⟨k + 1, j + t.length, rfl, by simp, by simp, by omega, HH.out.2.2, hR8.out.1.below (below_drewN_self _ _ _), hR8.out.2.trans (below_drewN_self _ _ _)⟩
        · obtain rfl : k = toks.length + 1 := by omega
          have hq : q = l.length := HK.out.2.2 (by omega)
          subst hq
          clear HK HCS
          have e1 : ((l.length : Int) == (l.length : Int)) = true := by simp
          go_wp2_with fail
          go_returns
          exact ⟨rfl, hBr⟩
    · have heb : ((er : Int) != 0) = true := by simp; omega
      go_wp2_with fail
      go_returns
      exact ⟨rfl, hB.trans (hB3.mono hB.size)⟩
end Go.Proofs.YthabfgpncebigaaDoor
