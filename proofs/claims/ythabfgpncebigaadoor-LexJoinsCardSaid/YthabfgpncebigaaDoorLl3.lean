/- LexJoins: the texts of a text's tokens, joined by blanks, are those tokens again. -/
import Derived.Test.YthabfgpncebigaaDoorBM
import Derived.Test.YthabfgpncebigaaDoorBP
namespace Go.Proofs.YthabfgpncebigaaDoor
open Go.RowKit

set_option maxRecDepth 100000 in
set_option maxHeartbeats 4000000 in
theorem lexjoins_law (l : List UInt8) (m : Int) (w : World) (hw : LexW m w) : Calls Tryd.prog 5 #[.string (str l)] w fun e w' => e = .returned (.bool true) ∧ Below w.heap.size w w' := by
  have hwk := lwakes_any m w hw
  go_enter Tryd.func5, Tryd.ntmps5
  go_wp2_with fail
  refine hwk.mono ?_
  rintro e w2 ⟨rfl, hB⟩
  have hW2 := hw.below hB
  clear hwk
  by_cases h15 : (1500 : Int) < l.length
  · go_wp2
    go_returns
    exact ⟨rfl, hB⟩
  · have hr := fun W => rparse11_any l W (by omega)
    have hjl := Lx.jn_le l
    have hpj := fun W hW => lparse_any (Lx.jn (Lx.walk 0 l).1) m W hW (by omega)
    have hjw : (Lx.walk 0 l).2.2 = 0 → (Lx.walk 0 (Lx.jn (Lx.walk 0 l).1)).2.2 = 0 ∧ (Lx.walk 0 (Lx.jn (Lx.walk 0 l).1)).1.map kt = (Lx.walk 0 l).1.map kt := fun h => Lx.join_walk h
    generalize Lx.walk 0 l = x at *
    obtain ⟨toks, pa, er⟩ := x
    simp only at hpj hjw hjl
    generalize Lx.walk 0 (Lx.jn toks) = y at *
    obtain ⟨toks2, pa2, er2⟩ := y
    simp only at hjw
    go_wp2_with fail
    refine (hr _).mono ?_
    rintro e w3 ⟨A, n, c, rfl, hrow, hB3⟩
    clear hr
    simp only at hrow
    have hsz := hB.size
    have hsz3 := hB3.size
    have hBB := hB.trans (hB3.mono hB.size)
    by_cases he : er = 0
    · subst he
      obtain ⟨rfl, hkt⟩ := hjw rfl
      have HKT := Lib.hid hkt
      have HPJ := Lib.hid hpj
      obtain rfl : n = toks.length := Rd3.len (Rd.of_own hrow)
      have hb4 := Blk.new w3 28 #[.slice A toks.length c, .int .i64 pa, .int .i64 0]
      have hR4 := (Rd.of_own hrow).alloc (.cells #[.slice A toks.length c, .int .i64 pa, .int .i64 0] 28)
      have hB4 := hBB.alloc (by omega) (.cells #[.slice A toks.length c, .int .i64 pa, .int .i64 0] 28)
      have hmax := Rd.max hR4
      have HJ := Lib.hid hjl
      clear hjw hkt hpj hrow hB3 hBB hjl
      go_wp2_with fail
      have hst : (w3.alloc (.cells #[.slice A toks.length c, .int .i64 pa, .int .i64 0] 28)).heap.size = w3.heap.size + 1 := by simp
      generalize w3.alloc (.cells #[.slice A toks.length c, .int .i64 pa, .int .i64 0] 28) = W4 at *
      generalize w3.heap.size = tb at *
      have HR4 := Lib.hid (And.intro hb4 (And.intro hR4 hB4))
      clear hR4 hB4 hb4
      go_loopg [23, 4] (toks.length + 1) (fun g kv sv wr => ∃ k : Nat, g = toks.length + 1 - k ∧ kv = .int .i64 k ∧ sv = .string (str (Lx.jn (toks.take k))) ∧ k ≤ toks.length ∧ Hid (Blk tb 28 #[.slice A toks.length c, .int .i64 pa, .int .i64 0] wr ∧ Rd wr 3 A toks.length c (tval toks) ∧ Below w.heap.size w wr))
      case atStart => exact ⟨0, rfl, rfl, rfl, Nat.zero_le _, HR4⟩
      case round =>
        obtain ⟨k, rfl, rfl, rfl, hk, HH⟩ := hrel
        clear HR4
        by_cases hlt : k < toks.length
        · have d1 : (k : Int) < (toks.length : Int) := by omega
          have hR := HH.out.2.1
          obtain ⟨ad, rfl⟩ := Rd.addr hR (by omega)
          obtain ⟨a0, a1, a2⟩ := Rd3.cells hR hlt
          have hjt := Lx.jn_take hlt
          have hw1 : IntKind.i64.wrap ((k : Int) + 1) = (k : Int) + 1 := IntWalk.i64_in _ (by omega)
          have hpre : (Lx.jn (toks.take (k + 1))).length ≤ 2 * l.length := by
            have h1 : (Lx.jn toks).length = (Lx.jn (toks.take (k + 1))).length + (Lx.jn (toks.drop (k + 1))).length := by
              rw [← List.length_append, ← Lx.jn_app, List.take_append_drop]
            have := HJ.out
            omega
          rw [hjt] at hpre
          generalize toks[k] = tk at *
          obtain ⟨kk, tt, tp⟩ := tk
          simp only at a0 a1 a2
          generalize Lx.jn (toks.take k) = s at *
          unfold Lx.jn1 at hjt hpre
          simp only at hjt hpre
          by_cases hk5 : kk = 5
          · subst hk5
            rw [if_pos rfl] at hjt hpre
            rw [List.length_append] at hpre
            have ha : ∀ W : World, (Op.stringOp .add (str s) (str tt)).run Tryd.prog W = .ok (.string (str (s ++ tt))) W := fun W => run_add_str W s tt (by omega)
            have HJT := Lib.hid hjt
            clear hjt
            go_wp2_with fail
            go_roundg (toks.length + 1 - (k + 1))
            case measure => omega
            case rel => exact ⟨k + 1, rfl, by simp, by rw [HJT.out], by omega, HH.out.1.alloc _, HH.out.2.1.alloc _, HH.out.2.2.alloc HH.out.2.2.size _⟩
          · rw [if_neg hk5] at hjt hpre
            rw [List.length_append, List.length_append] at hpre
            simp only [List.length_cons, List.length_nil] at hpre
            have hkb : (kk == 5) = false := by simp [hk5]
            have ha1 : ∀ W : World, (Op.stringOp .add (str tt) (ByteArray.mk #[32])).run Tryd.prog W = .ok (.string (str (tt ++ [32]))) W := fun W => run_add_str W tt [32] (by simp; omega)
            have ha : ∀ W : World, (Op.stringOp .add (str s) (str (tt ++ [32]))).run Tryd.prog W = .ok (.string (str (s ++ (tt ++ [32])))) W := fun W => run_add_str W s (tt ++ [32]) (by simp; omega)
            have HJT := Lib.hid hjt
            clear hjt
            go_wp2_with fail
            go_roundg (toks.length + 1 - (k + 1))
            case measure => omega
            case rel => exact ⟨k + 1, rfl, by simp, by rw [HJT.out], by omega, HH.out.1.alloc _, HH.out.2.1.alloc _, HH.out.2.2.alloc HH.out.2.2.size _⟩
        · obtain rfl : k = toks.length := by omega
          have hpp := HPJ.out _ (hw.below HH.out.2.2)
          rw [List.take_length]
          go_wp2_with fail
          refine hpp.mono ?_
          rintro e w5 ⟨A2, n2, c2, rfl, hrow5, hB5⟩
          clear hpp
          simp only at hrow5
          simp only [if_true] at hrow5
          have hblt := HH.out.1.lt
          have k0 : w5.cell? ⟨tb, 0, none⟩ = some (.slice A toks.length c) := (HH.out.1.below hB5 hblt).cell 0
          have hsm := rsame_any toks2 toks A2 A n2 c2 toks.length c w5 (Rd.of_own hrow5) (HH.out.2.1.below hB5)
          rw [show decide (toks2.map kt = toks.map kt) = true from decide_eq_true HKT.out] at hsm
          have hBB5 := HH.out.2.2.trans (hB5.mono HH.out.2.2.size)
          clear hrow5
          go_wp2_with fail
          refine hsm.mono ?_
          rintro e w6 ⟨rfl, hB6⟩
          go_wp2_with fail
          go_returns
          exact ⟨rfl, hBB5.trans (hB6.mono hBB5.size)⟩
    · have heb : ((er : Int) != 0) = true := by simp; omega
      go_wp2_with fail
      go_returns
      exact ⟨rfl, hBB.alloc (by omega) _⟩
end Go.Proofs.YthabfgpncebigaaDoor
