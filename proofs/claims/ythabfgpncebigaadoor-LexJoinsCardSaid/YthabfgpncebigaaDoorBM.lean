/- lex: next. lex: the closure of Parse, walk with it, Parse. tabulariumref11: one. tabulariumref11: Parse. What the rows' list gives: the tables of utf, num, lex, cell by cell; MaxLen holds some number. tabulariumlaw11: whole, of tokens that are the same; wakes. tabulariumlaw11: wakes. -/
import Derived.Test.YthabfgpncebigaaDoorBL
import Derived.Test.YthabfgpncebigaaDoorBN
import Derived.Test.YthabfgpncebigaaDoorBQ
import Derived.Shelf.Strings.SlTrimAscii
import Derived.Deep.DeepCutAuto
import Derived.Deep.MidRow
import Derived.StillTailTactics
import Derived.Test.YthabfgpncebigaaDoorBA
import Derived.WalkMore
import Derived.Test.YthabfgpncebigaaDoorBR
import Derived.Test.YthabfgpncebigaaDoorRows
import Derived.Lib.LaidTab
import Derived.Laws.StructEq

/- lex: next. -/
namespace Go.Proofs.YthabfgpncebigaaDoor
open Go.RowKit

/-- The signs, as they lie in the program's table. -/
def lexSigns : List (List UInt8) := [[61, 61], [33, 61], [60, 61], [62, 61], [38, 38], [124, 124], [61], [60], [62], [43], [45], [42], [47], [37], [33], [63], [58], [44], [46], [40], [41], [91], [93], [123], [125]]
def SgnT (w : World) : Prop := ∀ j, j < 25 → w.cell? ⟨0, j, none⟩ = some (.string (str (lexSigns.getD j [])))
/-- The tables that lexing reads. -/
structure LexW (m : Int) (w : World) : Prop where
  F : Forms w
  N : NumT w
  M : w.cell? ⟨2, 0, none⟩ = some (.int .i64 m)
  S : SgnT w
theorem cell_lt {w : World} {b i : Nat} {v : Value} (h : w.cell? ⟨b, i, none⟩ = some v) : b < w.heap.size := Nat.lt_of_not_le fun hh => by
  rw [World.cell?, Array.getElem?_eq_none hh] at h
  cases h
theorem LexW.below {m : Int} {w w' : World} (h : LexW m w) (hB : Below w.heap.size w w') : LexW m w' :=
  ⟨h.F.below hB, h.N.below hB, (hB.cell (p := ⟨2, 0, none⟩) (cell_lt h.M)).trans h.M, fun j hj => (hB.cell (p := ⟨0, j, none⟩) (cell_lt (h.S j hj))).trans (h.S j hj)⟩

theorem drewN_later (w : World) (n : Nat) : w.drewN n = later w (w.drawn + n) #[] := by simp [later, World.drewN]
theorem later_zl (w : World) (d e : Nat) (ps : Array Obj) : later (later w d #[]) e ps = later w e ps := by simp [later]
theorem ib_line : ∀ l : List UInt8, (0 ≤ Lib.indexByte l 10 → (Lib.indexByte l 10).toNat = (Lx.line l).length) ∧ (¬0 ≤ Lib.indexByte l 10 → Lx.line l = l)
  | [] => ⟨fun h => absurd h (by decide), fun _ => rfl⟩
  | b :: l => by
    have ih := ib_line l
    have e1 : Lib.indexByte (b :: l) 10 = if (b == 10) = true then 0 else if (Lib.indexByte l 10 == -1) = true then -1 else Lib.indexByte l 10 + 1 := rfl
    have e2 : Lx.line (b :: l) = if (b != 10) = true then b :: Lx.line l else [] := List.takeWhile_cons
    rw [e1, e2]
    by_cases hb : b = 10
    · rw [if_pos (show (b == 10) = true by simpa using hb), if_neg (show ¬(b != 10) = true by simp [hb])]
      exact ⟨fun _ => rfl, fun h => absurd (Int.le_refl 0) h⟩
    · rw [if_neg (show ¬(b == 10) = true by simpa using hb), if_pos (show (b != 10) = true by simpa using hb)]
      by_cases hm : Lib.indexByte l 10 = -1
      · rw [if_pos (show (Lib.indexByte l 10 == -1) = true by simpa using hm)]
        exact ⟨fun h => absurd h (by omega), fun _ => by rw [ih.2 (by omega)]⟩
      · rw [if_neg (show ¬(Lib.indexByte l 10 == -1) = true by simpa using hm)]
        have hg := Lib.index_ge l [10]
        rw [Lib.index_one] at hg
        by_cases h0 : 0 ≤ Lib.indexByte l 10
        · refine ⟨fun _ => ?_, fun h => absurd h (by omega)⟩
          have := ih.1 h0
          rw [List.length_cons, ← this]
          omega
        · exact absurd h0 (by omega)
theorem cut_line (l : List UInt8) : (Lib.cut l [10]).1 = Lx.line l := by
  have h := ib_line l
  unfold Lib.cut
  rw [Lib.index_one]
  by_cases h0 : 0 ≤ Lib.indexByte l 10
  · rw [if_pos h0, h.1 h0]
    exact (List.prefix_iff_eq_take.1 (List.takeWhile_prefix _)).symm
  · rw [if_neg h0]; exact (h.2 h0).symm
theorem trimright_any (l : List UInt8) (w : World) (hl : l.length ≤ 4611686018427387904) :
    Calls Tryd.prog 51 #[.string (str l), .string ⟨#[32, 9, 13]⟩] w fun e w' => e = .returned (.string (str (Lx.trim l))) ∧ Below w.heap.size w w' :=
  Any.strings_TrimRight_laid Tryd.lays162 (by kernel_rfl) (str l) ⟨#[32, 9, 13]⟩ w (by rw [str_size]; omega) (by decide) (ascii_of_all (by decide))

/-- A token, or how it goes wrong, in the case of the byte that it begins with. -/
theorem one_at {l : List UInt8} {b : UInt8} (h0 : 0 < l.length) (hb : b = l[0]) : Lx.one l = if b = 10 then ⟨5, 1, 0, 0⟩
    else if Lx.letter b = true then ⟨1, Lx.nameL l, 0, 0⟩
    else if Nm.dig b = true then ⟨2, Nm.scan l, 0, (Nm.numV (l.take (Nm.scan l))).2⟩
    else if b = 34 then ⟨3, (Qt.scan l).n, 0, (Qt.scan l).e⟩
    else if b = 35 ∨ [47, 47].isPrefixOf l = true then Lx.rem 6 (Lx.trim (Lx.line l))
    else if [47, 42].isPrefixOf l = true then (if Lx.shut l < 0 then ⟨0, 0, 0, 2⟩ else Lx.rem 7 ((Lx.line l).take ((Lx.shut l).toNat + 4)))
    else if Lx.sign l = 0 then ⟨0, 0, 0, 3⟩ else ⟨4, Lx.sign l, 0, 0⟩ := by
  cases l with
  | nil => cases h0
  | cons c r => subst hb; rfl

/-- The table's cells. -/
def signsV : List Value := lexSigns.map fun s => .string (str s)
theorem signs_index (k : Nat) (hk : k < 25) (w : World) : (Instr.index 77 (.agg signsV.toArray) (.int .i64 k)).run Tryd.prog w = .ok (.string (str (lexSigns.getD k []))) w := by
  have s0 : ∀ w : World, (Instr.index 77 (.agg signsV.toArray) (.int .i64 0)).run Tryd.prog w = .ok (.string (str (lexSigns.getD 0 []))) w := fun _ => by kernel_rfl
  have s1 : ∀ w : World, (Instr.index 77 (.agg signsV.toArray) (.int .i64 1)).run Tryd.prog w = .ok (.string (str (lexSigns.getD 1 []))) w := fun _ => by kernel_rfl
  have s2 : ∀ w : World, (Instr.index 77 (.agg signsV.toArray) (.int .i64 2)).run Tryd.prog w = .ok (.string (str (lexSigns.getD 2 []))) w := fun _ => by kernel_rfl
  have s3 : ∀ w : World, (Instr.index 77 (.agg signsV.toArray) (.int .i64 3)).run Tryd.prog w = .ok (.string (str (lexSigns.getD 3 []))) w := fun _ => by kernel_rfl
  have s4 : ∀ w : World, (Instr.index 77 (.agg signsV.toArray) (.int .i64 4)).run Tryd.prog w = .ok (.string (str (lexSigns.getD 4 []))) w := fun _ => by kernel_rfl
  have s5 : ∀ w : World, (Instr.index 77 (.agg signsV.toArray) (.int .i64 5)).run Tryd.prog w = .ok (.string (str (lexSigns.getD 5 []))) w := fun _ => by kernel_rfl
  have s6 : ∀ w : World, (Instr.index 77 (.agg signsV.toArray) (.int .i64 6)).run Tryd.prog w = .ok (.string (str (lexSigns.getD 6 []))) w := fun _ => by kernel_rfl
  have s7 : ∀ w : World, (Instr.index 77 (.agg signsV.toArray) (.int .i64 7)).run Tryd.prog w = .ok (.string (str (lexSigns.getD 7 []))) w := fun _ => by kernel_rfl
  have s8 : ∀ w : World, (Instr.index 77 (.agg signsV.toArray) (.int .i64 8)).run Tryd.prog w = .ok (.string (str (lexSigns.getD 8 []))) w := fun _ => by kernel_rfl
  have s9 : ∀ w : World, (Instr.index 77 (.agg signsV.toArray) (.int .i64 9)).run Tryd.prog w = .ok (.string (str (lexSigns.getD 9 []))) w := fun _ => by kernel_rfl
  have s10 : ∀ w : World, (Instr.index 77 (.agg signsV.toArray) (.int .i64 10)).run Tryd.prog w = .ok (.string (str (lexSigns.getD 10 []))) w := fun _ => by kernel_rfl
  have s11 : ∀ w : World, (Instr.index 77 (.agg signsV.toArray) (.int .i64 11)).run Tryd.prog w = .ok (.string (str (lexSigns.getD 11 []))) w := fun _ => by kernel_rfl
  have s12 : ∀ w : World, (Instr.index 77 (.agg signsV.toArray) (.int .i64 12)).run Tryd.prog w = .ok (.string (str (lexSigns.getD 12 []))) w := fun _ => by kernel_rfl
  have s13 : ∀ w : World, (Instr.index 77 (.agg signsV.toArray) (.int .i64 13)).run Tryd.prog w = .ok (.string (str (lexSigns.getD 13 []))) w := fun _ => by kernel_rfl
  have s14 : ∀ w : World, (Instr.index 77 (.agg signsV.toArray) (.int .i64 14)).run Tryd.prog w = .ok (.string (str (lexSigns.getD 14 []))) w := fun _ => by kernel_rfl
  have s15 : ∀ w : World, (Instr.index 77 (.agg signsV.toArray) (.int .i64 15)).run Tryd.prog w = .ok (.string (str (lexSigns.getD 15 []))) w := fun _ => by kernel_rfl
  have s16 : ∀ w : World, (Instr.index 77 (.agg signsV.toArray) (.int .i64 16)).run Tryd.prog w = .ok (.string (str (lexSigns.getD 16 []))) w := fun _ => by kernel_rfl
  have s17 : ∀ w : World, (Instr.index 77 (.agg signsV.toArray) (.int .i64 17)).run Tryd.prog w = .ok (.string (str (lexSigns.getD 17 []))) w := fun _ => by kernel_rfl
  have s18 : ∀ w : World, (Instr.index 77 (.agg signsV.toArray) (.int .i64 18)).run Tryd.prog w = .ok (.string (str (lexSigns.getD 18 []))) w := fun _ => by kernel_rfl
  have s19 : ∀ w : World, (Instr.index 77 (.agg signsV.toArray) (.int .i64 19)).run Tryd.prog w = .ok (.string (str (lexSigns.getD 19 []))) w := fun _ => by kernel_rfl
  have s20 : ∀ w : World, (Instr.index 77 (.agg signsV.toArray) (.int .i64 20)).run Tryd.prog w = .ok (.string (str (lexSigns.getD 20 []))) w := fun _ => by kernel_rfl
  have s21 : ∀ w : World, (Instr.index 77 (.agg signsV.toArray) (.int .i64 21)).run Tryd.prog w = .ok (.string (str (lexSigns.getD 21 []))) w := fun _ => by kernel_rfl
  have s22 : ∀ w : World, (Instr.index 77 (.agg signsV.toArray) (.int .i64 22)).run Tryd.prog w = .ok (.string (str (lexSigns.getD 22 []))) w := fun _ => by kernel_rfl
  have s23 : ∀ w : World, (Instr.index 77 (.agg signsV.toArray) (.int .i64 23)).run Tryd.prog w = .ok (.string (str (lexSigns.getD 23 []))) w := fun _ => by kernel_rfl
  have s24 : ∀ w : World, (Instr.index 77 (.agg signsV.toArray) (.int .i64 24)).run Tryd.prog w = .ok (.string (str (lexSigns.getD 24 []))) w := fun _ => by kernel_rfl
  match k, hk with
  | 0, _ => exact s0 w
  | 1, _ => exact s1 w
  | 2, _ => exact s2 w
  | 3, _ => exact s3 w
  | 4, _ => exact s4 w
  | 5, _ => exact s5 w
  | 6, _ => exact s6 w
  | 7, _ => exact s7 w
  | 8, _ => exact s8 w
  | 9, _ => exact s9 w
  | 10, _ => exact s10 w
  | 11, _ => exact s11 w
  | 12, _ => exact s12 w
  | 13, _ => exact s13 w
  | 14, _ => exact s14 w
  | 15, _ => exact s15 w
  | 16, _ => exact s16 w
  | 17, _ => exact s17 w
  | 18, _ => exact s18 w
  | 19, _ => exact s19 w
  | 20, _ => exact s20 w
  | 21, _ => exact s21 w
  | 22, _ => exact s22 w
  | 23, _ => exact s23 w
  | 24, _ => exact s24 w
  | k + 25, h => exact absurd h (by omega)
theorem info_signs : (Tryd.prog.info? 77).map (·.size) = some signsV.length := by kernel_rfl
theorem SgnT.range {w : World} (h : SgnT w) : w.rangeAt 0 0 signsV := fun j v hv => by
  have hj : j < 25 := by
    have := (List.getElem?_eq_some_iff.1 hv).1
    simpa [signsV, lexSigns] using this
  rw [Nat.zero_add, h j hj]
  unfold signsV at hv
  rw [List.getElem?_map] at hv
  rw [List.getD_eq_getElem?_getD]
  cases hq : lexSigns[j]? with
  | none => rw [hq] at hv; cases hv
  | some s => rw [hq] at hv; exact hv
theorem sign_find (l : List UInt8) : Lx.sign l = ((lexSigns.find? (·.isPrefixOf l)).map List.length).getD 0 := by
  have key : ∀ (L : List (List UInt8)) (n : Nat), (∀ x ∈ L, x.length = n) → (L.any (·.isPrefixOf l) = true → ∃ v, L.find? (·.isPrefixOf l) = some v ∧ v.length = n) ∧ (L.any (·.isPrefixOf l) = false → L.find? (·.isPrefixOf l) = none) := by
    intro L n hL
    constructor
    · intro h
      obtain ⟨x, hx, hp⟩ := List.any_eq_true.1 h
      cases hf : L.find? (·.isPrefixOf l) with
      | none => exact absurd hp (List.find?_eq_none.1 hf x hx)
      | some v => exact ⟨v, rfl, hL v (List.mem_of_find?_eq_some hf)⟩
    · intro h
      refine List.find?_eq_none.2 fun x hx hp => ?_
      rw [List.any_eq_true.2 ⟨x, hx, hp⟩] at h
      cases h
  have h2 := key Lx.twos 2 (by decide)
  have h1 := key Lx.ones 1 (by decide)
  rw [show lexSigns = Lx.twos ++ Lx.ones from rfl, List.find?_append]
  unfold Lx.sign
  cases ha : Lx.twos.any (·.isPrefixOf l)
  · rw [h2.2 ha, if_neg (by simp)]
    cases hb : Lx.ones.any (·.isPrefixOf l)
    · rw [h1.2 hb, if_neg (by simp)]; rfl
    · obtain ⟨v, hv, hl⟩ := h1.1 hb
      rw [hv, if_pos rfl]
      exact hl.symm
  · obtain ⟨v, hv, hl⟩ := h2.1 ha
    rw [hv, if_pos rfl]
    exact hl.symm

set_option maxHeartbeats 4000000 in
set_option maxRecDepth 100000 in
theorem lnext_any (l : List UInt8) (m : Int) (w : World) (h0 : 0 < l.length) (hW : LexW m w) (hl : l.length ≤ 1000000) :
    Calls Tryd.prog 31 #[.string (str l)] w fun e w' => e = .returned (tlA (Lx.one l)) ∧ Below w.heap.size w w' := by
  have hcut : ∀ w, w.cell? ⟨2, 0, none⟩ = some (.int .i64 m) → Calls Tryd.prog 43 #[.string (str l), .string ⟨#[10]⟩] w fun e w' => e = .returned (.tuple #[.string (str (Lx.line l)), .string (str (Lib.cut l [10]).2.1), .bool (Lib.cut l [10]).2.2]) ∧ ∃ n, w' = w.drewN n := by
    intro w hm
    have h := Tryd.strings_Cut (str l) ⟨#[10]⟩ m w (by rw [str_size]; omega) hm
    have e1 : (str l).data.toList = l := rfl
    rw [e1, show (ByteArray.mk #[10]).data.toList = [10] from rfl, cut_line] at h
    exact h
  obtain ⟨c1, hc1⟩ : ∃ c1, c1 = (Lib.cut l [10]).2.1 := ⟨_, rfl⟩
  obtain ⟨c2, hc2⟩ : ∃ c2, c2 = (Lib.cut l [10]).2.2 := ⟨_, rfl⟩
  rw [← hc1, ← hc2] at hcut
  clear hc1 hc2
  have hlt := lletter_any
  have hpre : ∀ (v : List UInt8) w, Calls Tryd.prog 49 #[.string (str l), .string (str v)] w fun e w' => e = .returned (.bool (v.isPrefixOf l)) ∧ w' = w := fun v w => Tryd.strings_HasPrefix (str l) (str v) w
  have hx0 : nth l 0 = (l[0].toNat : Int) := nth_eq h0
  obtain ⟨b, hb⟩ : ∃ b, b = l[0] := ⟨_, rfl⟩
  have hone := one_at h0 hb
  have hname := fun w h => lname_any l w h0 h (by omega)
  rw [← hb] at hx0 hname
  have e1 : 0 < (l.length : Int) := by omega
  have HO := Lib.hid hone
  have hW1 := hW.below ((Below.refl _ w).alloc (Nat.le_refl _) (.cells #[.int .i64 0, .int .i64 0, .int .i64 0, .int .i64 0] 53))
  obtain ⟨ans, hans⟩ : ∃ ans, ans = Lx.one l := ⟨_, rfl⟩
  rw [← hans] at HO ⊢
  have hd : Nm.dig b = (decide ((48 : Int) ≤ b.toNat) && decide ((b.toNat : Int) ≤ 57)) := dig_int b
  have hlb := hlt b
  have hi : ∀ c : UInt8, (b = c) ↔ ((b.toNat : Int) = (c.toNat : Int)) := fun c => ⟨fun h => by rw [h], fun h => UInt8.toNat_inj.1 (by omega)⟩
  clear hone hb hans
  obtain ⟨x, hx⟩ : ∃ x : Int, (b.toNat : Int) = x := ⟨_, rfl⟩
  rw [hx] at hd hlb hx0
  simp only [hx] at hi
  have HI := Lib.hid hi
  clear hi hx hlt
  go_enter Tryd.func31, Tryd.ntmps31
  go_wp2_with fail
  refine (hcut _ hW1.M).mono ?_
  rintro e w2 ⟨rfl, nd, rfl⟩
  clear hcut
  rw [drewN_later]
  have hW2 := hW1.below (below_later (w.alloc (.cells #[.int .i64 0, .int .i64 0, .int .i64 0, .int .i64 0] 53)) ((w.alloc (.cells #[.int .i64 0, .int .i64 0, .int .i64 0, .int .i64 0] 53)).drawn + nd) #[])
  generalize (w.alloc (.cells #[.int .i64 0, .int .i64 0, .int .i64 0, .int .i64 0] 53)).drawn + nd = dn at *
  clear hW1
  by_cases h10 : b = 10
  · have hx10 : x = 10 := (HI.out 10).1 h10
    have HA : Hid (ans = ⟨5, 1, 0, 0⟩) := by have h := HO.out; rw [if_pos h10] at h; exact h
    clear HO HI hd hlb hname h10
    subst hx10
    go_wp2_with fail
    go_returns
    exact ⟨by rw [HA.out]; rfl, by (repeat' (first | (with_reducible exact Below.refl _ _) | (with_reducible assumption) | (with_reducible refine below_later' ?_ ?_ _ _) | (with_reducible refine Below.alloc ?_ ?_ _) | (with_reducible refine Below.setCell ?_ ?_ _) | (with_reducible refine Below.drew ?_) | (with_reducible refine below_drewN ?_ _) | (with_reducible exact Nat.le_refl _) | omega | (simp; done) | (simp; omega)))⟩
  have b10 : (x == 10) = false := by simpa using fun h => h10 ((HI.out 10).2 h)
  have HO1 := Lib.hid (HO.out.trans (if_neg h10))
  clear HO h10
  cases hL : Lx.letter b
  case' true =>
    have HA : Hid (ans = ⟨1, Lx.nameL l, 0, 0⟩) := by have h := HO1.out; rw [if_pos hL] at h; exact h
    rw [hL] at hlb
    have hname2 := fun w => hname w hL
    clear HO1 HI hd hname hL
    go_wp2_with fail
    refine (hlb _).mono ?_
    rintro e w3 ⟨rfl, rfl⟩
    go_wp2_with fail
    refine (hname2 _).mono ?_
    rintro e w3 ⟨rfl, rfl⟩
    go_wp2_with fail
    go_returns
    exact ⟨by rw [HA.out]; rfl, by (repeat' (first | (with_reducible exact Below.refl _ _) | (with_reducible assumption) | (with_reducible refine below_later' ?_ ?_ _ _) | (with_reducible refine Below.alloc ?_ ?_ _) | (with_reducible refine Below.setCell ?_ ?_ _) | (with_reducible refine Below.drew ?_) | (with_reducible refine below_drewN ?_ _) | (with_reducible exact Nat.le_refl _) | omega | (simp; done) | (simp; omega)))⟩
  rw [hL] at hlb
  have HO2 := Lib.hid (HO1.out.trans (if_neg (by rw [hL]; simp)))
  clear HO1 hL hname
  cases hD : Nm.dig b
  case' true =>
    have HA := Lib.hid (HO2.out.trans (if_pos hD))
    have hd2 := hD
    rw [hd, Bool.and_eq_true, decide_eq_true_eq, decide_eq_true_eq] at hd2
    obtain ⟨d1, d2⟩ := hd2
    have hsc := numscan_any l
    have hsl := Nm.scan_le l
    have hnp := fun t w h => numparse_any t m w h
    clear HO2 HI hd hD
    generalize Nm.scan l = sc at *
    have d3 : 0 ≤ (sc : Int) ∧ (sc : Int) ≤ l.length := by omega
    go_wp2_with fail
    refine (hlb _).mono ?_
    rintro e w3 ⟨rfl, rfl⟩
    go_wp2_with fail
    refine (hsc _ hW2.N (by omega)).mono ?_
    rintro e w3 ⟨rfl, rfl⟩
    go_wp2_with fail
    refine (hnp _ _ hW2.N hW2.M (by rw [List.length_take]; omega)).mono ?_
    rintro e w3 ⟨rfl, hB3⟩
    obtain ⟨d3, o3, rfl⟩ := later_of_below hB3
    rw [later_later]
    clear hsc hnp hB3
    generalize Nm.numV (l.take sc) = nv at *
    obtain ⟨⟨ng, ds, ex⟩, er⟩ := nv
    unfold numA
    go_wp2_with fail
    go_returns
    exact ⟨by rw [HA.out]; rfl, by (repeat' (first | (with_reducible exact Below.refl _ _) | (with_reducible assumption) | (with_reducible refine below_later' ?_ ?_ _ _) | (with_reducible refine Below.alloc ?_ ?_ _) | (with_reducible refine Below.setCell ?_ ?_ _) | (with_reducible refine Below.drew ?_) | (with_reducible refine below_drewN ?_ _) | (with_reducible exact Nat.le_refl _) | omega | (simp; done) | (simp; omega)))⟩
  have HO3 := Lib.hid (HO2.out.trans (if_neg (by rw [hD]; simp)))
  have HD := Lib.hid (hd.symm.trans hD)
  clear HO2 hd hD
  go_wp2_with fail
  refine (hlb _).mono ?_
  rintro e w3 ⟨rfl, rfl⟩
  clear hlb
  go_upto_region 7 with (fail)
  go_cut [34] from 35 (fun v wx => v = .bool false ∧ wx = later (w.alloc (.cells #[.int .i64 0, .int .i64 0, .int .i64 0, .int .i64 0] 53)) dn #[])
  case first =>
    by_cases h1 : 48 ≤ x
    · have h2 : ¬x ≤ 57 := fun h => by
        have := HD.out
        rw [decide_eq_true h1, decide_eq_true h] at this
        cases this
      go_wp2_with fail
      go_meet
      exact ⟨rfl, rfl⟩
    · go_wp2_with fail
      go_meet
      exact ⟨rfl, rfl⟩
  obtain ⟨rfl, rfl⟩ := hcut
  clear HD
  by_cases h34 : b = 34
  · have hx34 : x = 34 := (HI.out 34).1 h34
    have HA := Lib.hid (HO3.out.trans (if_pos h34))
    clear HO3 HI h34
    subst hx34
    have hq := qscan_any l _ hW2.F hl
    generalize Qt.scan l = q at *
    obtain ⟨qs, qn, qe⟩ := q
    unfold scanV at hq
    go_wp2_with fail
    refine hq.mono ?_
    rintro e w3 ⟨rfl, hB3⟩
    obtain ⟨d3, o3, rfl⟩ := later_of_below hB3
    rw [later_later]
    clear hq hB3
    go_wp2_with fail
    go_returns
    exact ⟨by rw [HA.out]; rfl, by (repeat' (first | (with_reducible exact Below.refl _ _) | (with_reducible assumption) | (with_reducible refine below_later' ?_ ?_ _ _) | (with_reducible refine Below.alloc ?_ ?_ _) | (with_reducible refine Below.setCell ?_ ?_ _) | (with_reducible refine Below.drew ?_) | (with_reducible refine below_drewN ?_ _) | (with_reducible exact Nat.le_refl _) | omega | (simp; done) | (simp; omega)))⟩
  have HO4 := Lib.hid (HO3.out.trans (if_neg h34))
  have b34 : (x == 34) = false := by simpa using fun h => h34 ((HI.out 34).2 h)
  clear HO3 h34
  have hpp := hpre [47, 47]
  -- a comment up to the line's end
  by_cases hR : b = 35 ∨ [47, 47].isPrefixOf l = true
  · have HA := Lib.hid (HO4.out.trans (if_pos hR))
    clear HO4
    have hrm : ∀ (t : List UInt8) (w : World), Forms w → t.length ≤ 1000000000 → Calls Tryd.prog 50 #[.int .i64 6, .string (str t)] w fun e w' => e = .returned (tlA (Lx.rem 6 t)) ∧ Below w.heap.size w w' := fun t w hF h => lremark_any 6 t w hF h
    have htr := fun w => trimright_any (Lx.line l) w (by have := Lx.line_le l; omega)
    have htl := Lx.trim_le (Lx.line l)
    have hll := Lx.line_le l
    generalize Lx.trim (Lx.line l) = t at *
    go_upto_region 14 with (fail)
    go_cut [65] from 66 (fun v wx => v = .bool true ∧ wx = later (w.alloc (.cells #[.int .i64 0, .int .i64 0, .int .i64 0, .int .i64 0] 53)) dn #[])
    case first =>
      by_cases h35 : x = 35
      · have b35 : (x == 35) = true := by simpa using h35
        clear h35 hR
        go_wp2_with fail
        go_meet
        exact ⟨rfl, rfl⟩
      · have b35 : (x == 35) = false := by simpa using h35
        have hp1 : [47, 47].isPrefixOf l = true := hR.resolve_left fun h => h35 ((HI.out 35).1 h)
        rw [hp1] at hpp
        clear h35 hR hp1
        go_wp2_with fail
        refine (hpp _).mono ?_
        rintro e w3 ⟨rfl, rfl⟩
        go_wp2_with fail
        go_meet
        exact ⟨rfl, rfl⟩
    obtain ⟨rfl, rfl⟩ := hcut
    clear hR HI hpp
    go_wp2_with fail
    refine (htr _).mono ?_
    rintro e w3 ⟨rfl, hB3⟩
    have hW3 := hW2.below hB3
    obtain ⟨d3, o3, rfl⟩ := later_of_below hB3
    rw [later_zl] at hW3 ⊢
    clear htr hB3
    go_wp2_with fail
    refine (hrm _ _ hW3.F (by omega)).mono ?_
    rintro e w3 ⟨rfl, hB3⟩
    obtain ⟨d4, o4, rfl⟩ := later_of_below hB3
    rw [later_later]
    clear hrm hB3
    generalize Lx.rem 6 t = q at *
    obtain ⟨qk, qn, qi, qe⟩ := q
    unfold tlA tlC
    go_wp2_with fail
    go_returns
    exact ⟨by rw [HA.out]; rfl, by (repeat' (first | (with_reducible exact Below.refl _ _) | (with_reducible assumption) | (with_reducible refine below_later' ?_ ?_ _ _) | (with_reducible refine Below.alloc ?_ ?_ _) | (with_reducible refine Below.setCell ?_ ?_ _) | (with_reducible refine Below.drew ?_) | (with_reducible refine below_drewN ?_ _) | (with_reducible exact Nat.le_refl _) | omega | (simp; done) | (simp; omega)))⟩
  have HO5 := Lib.hid (HO4.out.trans (if_neg hR))
  have hx35 : (x == 35) = false := by simpa using fun h => hR (.inl ((HI.out 35).2 h))
  have hp47 : [47, 47].isPrefixOf l = false := Bool.eq_false_iff.2 fun h => hR (.inr h)
  rw [hp47] at hpp
  clear HO4 hR HI hp47
  go_wp2_with fail
  refine (hpp _).mono ?_
  rintro e w3 ⟨rfl, rfl⟩
  clear hpp
  have hpa := hpre [47, 42]
  cases hA : [47, 42].isPrefixOf l
  case' true =>
    have HO6 := Lib.hid (HO5.out.trans (if_pos hA))
    have hl2 : 2 ≤ (Lx.line l).length := by
      obtain ⟨r, hr⟩ := List.isPrefixOf_iff_prefix.1 hA
      rw [← hr]
      unfold Lx.line
      simp
    have hix : ∀ w, w.cell? ⟨2, 0, none⟩ = some (.int .i64 m) → Calls Tryd.prog 52 #[.string (str ((Lx.line l).drop 2)), .string ⟨#[42, 47]⟩] w fun e w' => e = .returned (.int .i64 (Lx.shut l)) ∧ w' = w := by
      intro w hm
      have h := Tryd.strings_Index (str ((Lx.line l).drop 2)) ⟨#[42, 47]⟩ m w (by rw [str_size, List.length_drop]; have := Lx.line_le l; omega) hm
      exact h
    have hrm : ∀ (t : List UInt8) (w : World), Forms w → t.length ≤ 1000000000 → Calls Tryd.prog 50 #[.int .i64 7, .string (str t)] w fun e w' => e = .returned (tlA (Lx.rem 7 t)) ∧ Below w.heap.size w w' := fun t w hF h => lremark_any 7 t w hF h
    have hsg := Lx.shut_ge l
    have hsl := fun h => Lx.shut_le (l := l) h
    have hll := Lx.line_le l
    rw [hA] at hpa
    have e3 : (0 : Int) ≤ 2 ∧ (2 : Int) ≤ (Lx.line l).length := by omega
    clear HO5 hA
    generalize Lx.line l = ln at *
    generalize Lx.shut l = z at *
    go_wp2_with fail
    refine (hpa _).mono ?_
    rintro e w3 ⟨rfl, rfl⟩
    go_wp2_with fail
    refine (hix _ hW2.M).mono ?_
    rintro e w3 ⟨rfl, rfl⟩
    clear hpa hix
    by_cases hz : z < 0
    · have HA := Lib.hid (HO6.out.trans (if_pos hz))
      clear HO6 hsl
      go_wp2_with fail
      go_returns
      exact ⟨by rw [HA.out]; rfl, by (repeat' (first | (with_reducible exact Below.refl _ _) | (with_reducible assumption) | (with_reducible refine below_later' ?_ ?_ _ _) | (with_reducible refine Below.alloc ?_ ?_ _) | (with_reducible refine Below.setCell ?_ ?_ _) | (with_reducible refine Below.drew ?_) | (with_reducible refine below_drewN ?_ _) | (with_reducible exact Nat.le_refl _) | omega | (simp; done) | (simp; omega)))⟩
    · have HA := Lib.hid (HO6.out.trans (if_neg hz))
      have hz2 := hsl (by omega)
      have hw1 : IntKind.i64.wrap (z + 4) = z + 4 := IntWalk.i64_in _ (by omega)
      have hz3 : 0 ≤ z + 4 ∧ z + 4 ≤ ln.length := by omega
      have hz4 : (z + 4).toNat = z.toNat + 4 := by omega
      have htk : (ln.take (z.toNat + 4)).length ≤ ln.length := by rw [List.length_take]; omega
      generalize z.toNat + 4 = zn at *
      clear HO6 hsl hz2
      have HZ := Lib.hid hz4
      obtain ⟨t, ht⟩ : ∃ t, t = ln.take zn := ⟨_, rfl⟩
      have ht2 : ln.take (z + 4).toNat = t := by rw [ht, hz4]
      rw [← ht] at HA htk
      clear hz4 ht
      go_wp2_with fail
      refine (hrm _ _ hW2.F (by omega)).mono ?_
      rintro e w3 ⟨rfl, hB3⟩
      obtain ⟨d4, o4, rfl⟩ := later_of_below hB3
      rw [later_zl]
      clear hrm hB3
      generalize Lx.rem 7 t = q at *
      obtain ⟨qk, qn, qi, qe⟩ := q
      unfold tlA tlC
      go_wp2_with fail
      go_returns
      exact ⟨by rw [HA.out]; rfl, by (repeat' (first | (with_reducible exact Below.refl _ _) | (with_reducible assumption) | (with_reducible refine below_later' ?_ ?_ _ _) | (with_reducible refine Below.alloc ?_ ?_ _) | (with_reducible refine Below.setCell ?_ ?_ _) | (with_reducible refine Below.drew ?_) | (with_reducible refine below_drewN ?_ _) | (with_reducible exact Nat.le_refl _) | omega | (simp; done) | (simp; omega)))⟩
  have HO6 := Lib.hid (HO5.out.trans (if_neg (by rw [hA]; simp)))
  rw [hA] at hpa
  clear HO5 hA
  go_wp2_with fail
  refine (hpa _).mono ?_
  rintro e w3 ⟨rfl, rfl⟩
  clear hpa
  have hrg := hW2.S.range
  have hix := signs_index
  have hil := info_signs
  have HN : Hid (Lx.sign l = (((lexSigns.drop 0).find? (·.isPrefixOf l)).map List.length).getD 0) := sign_find l
  generalize signsV = cs at *
  have HR := Lib.hid hrg
  have HL := Lib.hid hil
  clear hrg hil
  go_wp2_with (with_reducible refine wpList_load_mid rfl 77 (Operand.global 0) rfl 0 0 rfl cs _ HR.out Tryd.underlying77 rfl HL.out ?_)
  go_loopg [90] 25 (fun g kv wr => ∃ k : Nat, g = 25 - k ∧ kv = .int .i64 k ∧ k ≤ 25 ∧ Hid (Lx.sign l = (((lexSigns.drop k).find? (·.isPrefixOf l)).map List.length).getD 0) ∧ wr = later (w.alloc (.cells #[.int .i64 0, .int .i64 0, .int .i64 0, .int .i64 0] 53)) dn #[])
  case atStart => exact ⟨0, rfl, rfl, by omega, HN, rfl⟩
  case round =>
    obtain ⟨k, rfl, rfl, hk, HK, rfl⟩ := hrel
    clear HN
    by_cases hlt : k < 25
    · have d1 : (k : Int) < 25 := by omega
      have hw1 : IntKind.i64.wrap ((k : Int) + 1) = (k : Int) + 1 := IntWalk.i64_in _ (by omega)
      have hixk := hix k hlt
      have hdr : lexSigns.drop k = lexSigns.getD k [] :: lexSigns.drop (k + 1) := by
        rw [List.drop_eq_getElem_cons (show k < lexSigns.length from hlt), List.getD_eq_getElem?_getD, List.getElem?_eq_getElem (show k < lexSigns.length from hlt)]; rfl
      have hK2 := HK.out
      rw [hdr, List.find?_cons] at hK2
      have hpk := hpre (lexSigns.getD k [])
      have hvl : 0 < (lexSigns.getD k []).length ∧ (lexSigns.getD k []).length ≤ 2 := by
        have : ∀ j : Fin 25, 0 < (lexSigns.getD j.val []).length ∧ (lexSigns.getD j.val []).length ≤ 2 := by decide
        exact this ⟨k, hlt⟩
      clear HK hdr hix
      generalize lexSigns.getD k [] = v at *
      cases hp : v.isPrefixOf l
      · rw [hp] at hK2 hpk
        have HK3 := Lib.hid hK2
        clear hK2 hp
        go_wp2_with fail
        refine (hpk _).mono ?_
        rintro e w3 ⟨rfl, rfl⟩
        go_wp2_with fail
        go_roundg (25 - (k + 1))
        case measure => omega
        case rel => exact ⟨k + 1, rfl, by simp, hlt, HK3.out, rfl⟩
      · rw [hp] at hK2 hpk
        have hsn : Lx.sign l = v.length := hK2
        have HA := Lib.hid (HO6.out.trans (if_neg (by rw [hsn]; omega)))
        rw [hsn] at HA
        clear hK2 hp hsn HO6
        go_wp2_with fail
        refine (hpk _).mono ?_
        rintro e w3 ⟨rfl, rfl⟩
        go_wp2_with fail
        go_returns
        exact ⟨by rw [HA.out]; rfl, by (repeat' (first | (with_reducible exact Below.refl _ _) | (with_reducible assumption) | (with_reducible refine below_later' ?_ ?_ _ _) | (with_reducible refine Below.alloc ?_ ?_ _) | (with_reducible refine Below.setCell ?_ ?_ _) | (with_reducible refine Below.drew ?_) | (with_reducible refine below_drewN ?_ _) | (with_reducible exact Nat.le_refl _) | omega | (simp; done) | (simp; omega)))⟩
    · obtain rfl : k = 25 := by omega
      have hsn : Lx.sign l = 0 := HK.out
      have HA := Lib.hid (HO6.out.trans (if_pos hsn))
      clear HK HO6 hsn
      go_wp2_with fail
      go_returns
      exact ⟨by rw [HA.out]; rfl, by (repeat' (first | (with_reducible exact Below.refl _ _) | (with_reducible assumption) | (with_reducible refine below_later' ?_ ?_ _ _) | (with_reducible refine Below.alloc ?_ ?_ _) | (with_reducible refine Below.setCell ?_ ?_ _) | (with_reducible refine Below.drew ?_) | (with_reducible refine below_drewN ?_ _) | (with_reducible exact Nat.le_refl _) | omega | (simp; done) | (simp; omega)))⟩
end Go.Proofs.YthabfgpncebigaaDoor

/- lex: the closure of Parse, walk with it, Parse. -/
namespace Go.Proofs.YthabfgpncebigaaDoor
open Go.RowKit

/-- What has been gathered: the slice lies in block B, its row is the call's own. -/
def PI (w : World) (B : Nat) (pre : List Lx.Tok) (W : World) : Prop :=
  ∃ A c, Boxed W B 23 (.slice A pre.length c) ∧ W.ownsRow w.heap.size 33 3 (.slice A pre.length c) pre.length (tval pre) ∧ Below w.heap.size w W

set_option maxHeartbeats 1000000 in
set_option maxRecDepth 100000 in
theorem lparsef_any (w : World) (B : Nat) (pre : List Lx.Tok) (t : Lx.Tok) (W : World) (hP : PI w B pre W) (hB : w.heap.size ≤ B) (hl : pre.length ≤ 10000000) :
    Calls Tryd.prog 22 #[tokA t, .pointer (some ⟨B, 0, none⟩)] W fun e W' => e = .returned (.bool true) ∧ PI w B (pre ++ [t]) W' ∧ ∀ k cs, k ≠ B → Blk k 53 cs W → Blk k 53 cs W' := by
  obtain ⟨A, c, hb, hrow, hBW⟩ := hP
  have hc := hb.cell
  have hf := hb.frozen
  have hlt := hb.lt
  obtain ⟨tk, ts, tp⟩ := t
  unfold tokA tokC
  go_enter Tryd.func22, Tryd.ntmps22
  go_wp2_with (first
    | (at_builtin
       refine wpList_app_tok rfl _ _ rfl w.heap.size pre [⟨tk, ts, tp⟩] A pre.length c ((hrow.alloc _).alloc _) rfl _ 1 1 (rd_tok_at _ ⟨tk, ts, tp⟩ _ (by simp)) rfl (by omega) (by have := hBW.size; simp; omega) _ rfl _ rfl ?_
       intro A4 c4 w4 hown4 hg4 hat4
       have happ := ((hb.alloc _)).appended (v' := .slice A4 (pre.length + 1) c4) (by decide) (hrow.alloc _) (by have := hBW.size; simp; omega) (by omega) hown4 hg4
       have hc4 := happ.1.cell
       have hf4 := happ.1.frozen))
  obtain ⟨hv1, hv2, hv3, hv4, hv5⟩ := happ
  go_returns
  refine ⟨rfl, ⟨A4, c4, by simpa using hv2, by simpa using hv3, (hBW.alloc (by have := hBW.size; omega) _).trans hv5⟩, fun k cs hk hb2 => ?_⟩
  exact ((((hb2.alloc _).alloc _).grown hg4 (hb2.not_row (by decide) hrow))).other (by simpa using hk.symm) _

theorem blank_index (b : UInt8) : decide (0 ≤ Lib.indexByte [32, 9, 13] ((b.toNat : Int).toNat.toUInt8)) = Lx.blank b := by
  have : ∀ c : Fin 256, decide (0 ≤ Lib.indexByte [32, 9, 13] (((UInt8.ofNat c.val).toNat : Int).toNat.toUInt8)) = Lx.blank (UInt8.ofNat c.val) := by decide +kernel
  have h2 := this ⟨b.toNat, b.toNat_lt⟩
  simp only [UInt8.ofNat_toNat] at h2
  exact h2
theorem chkA_le : ∀ (k : Nat) (l : List UInt8) (p : Nat), l.length < k → (Lx.chkA l p).1 ≤ p + l.length
  | 0, _, _, h => absurd h (Nat.not_lt_zero _)
  | k + 1, l, p, hk => by
    by_cases h0 : l = []
    · subst h0; rw [Lx.chkA_nil]; exact Nat.zero_le _
    · have hl : l.length ≠ 0 := fun h => h0 (List.eq_nil_of_length_eq_zero h)
      rw [Lx.chkA_ne h0]
      split
      · exact Nat.le_add_right _ _
      · rename_i h1
        split
        · exact Nat.le_add_right _ _
        · have := chkA_le k (l.drop (Utf.next l).2) (p + (Utf.next l).2) (by rw [List.length_drop]; omega)
          have hle := Utf.next_le (l := l)
          rw [List.length_drop] at this
          omega
theorem rem_i (k : Nat) (t : List UInt8) : (Lx.rem k t).i ≤ t.length := by
  unfold Lx.rem
  split
  · exact Nat.zero_le _
  · have := chkA_le _ t 0 (Nat.lt_succ_self _)
    rw [Nat.zero_add] at this
    exact this
theorem one_i (l : List UInt8) : (Lx.one l).i ≤ l.length := by
  cases l with
  | nil => exact Nat.zero_le _
  | cons b r =>
    rw [one_at (b := b) (by simp) rfl]
    repeat' split
    all_goals first
      | exact Nat.zero_le _
      | (refine Nat.le_trans (rem_i _ _) (Nat.le_trans (Lx.trim_le _) (Lx.line_le _)))
      | (refine Nat.le_trans (rem_i _ _) (Nat.le_trans ?_ (Lx.line_le _)); rw [List.length_take]; exact Nat.min_le_right _ _)
theorem PI.below {w W W' : World} {B : Nat} {pre : List Lx.Tok} (h : PI w B pre W) (hB : Below W.heap.size W W') : PI w B pre W' := by
  obtain ⟨A, c, hb, hrow, hBW⟩ := h
  exact ⟨A, c, (hB.block _ hb.lt).trans hb, own_keep hrow hB, hBW.trans (hB.mono hBW.size)⟩

set_option maxHeartbeats 4000000 in
set_option maxRecDepth 100000 in
theorem lwalk_parse (l : List UInt8) (m : Int) (w : World) (B : Nat) (W : World) (hw : LexW m w) (hP : PI w B [] W) (hB : w.heap.size ≤ B) (hl : l.length ≤ 1000000) :
    Calls Tryd.prog 21 #[.string (str l), .func (.func 22) #[] #[.pointer (some ⟨B, 0, none⟩)]] W fun e W' => e = .returned (.tuple #[.int .i64 (Lx.walk 0 l).2.1, .int .i64 (Lx.walk 0 l).2.2]) ∧ PI w B (Lx.walk 0 l).1 W' := by
  have hib : ∀ (b : UInt8) (w : World), Calls Tryd.prog 30 #[.string ⟨#[32, 9, 13]⟩, .int .u8 b.toNat] w fun e w' => e = .returned (.int .i64 (Lib.indexByte [32, 9, 13] ((b.toNat : Int).toNat.toUInt8))) ∧ w' = w := fun b w => Tryd.strings_IndexByte ⟨#[32, 9, 13]⟩ (b.toNat : Int) w
  have hbi := blank_index
  obtain ⟨ans, hans⟩ : ∃ ans, ans = Lx.walk 0 l := ⟨_, rfl⟩
  rw [← hans]
  have HA : Hid (ans.1 = [] ++ (Lx.walk 0 (l.drop 0)).1 ∧ ans.2 = (Lx.walk 0 (l.drop 0)).2) := ⟨by rw [hans]; rfl, by rw [hans]; rfl⟩
  clear hans
  go_enter Tryd.func21, Tryd.ntmps21
  go_wp2
  go_step3
  go_wp2
  go_step3
  go_wp2
  go_loopg [6] (l.length) (fun g pv wr => ∃ (p : Nat) (pre : List Lx.Tok), g = l.length - p ∧ pv = .int .i64 p ∧ p ≤ l.length ∧ pre.length ≤ p ∧ Hid (ans.1 = pre ++ (Lx.walk p (l.drop p)).1 ∧ ans.2 = (Lx.walk p (l.drop p)).2) ∧ PI w B pre wr)
  case atStart => exact ⟨0, [], rfl, rfl, Nat.zero_le _, Nat.le_refl _, HA, hP⟩
  case round =>
    obtain ⟨p, pre, rfl, rfl, hp, hpl, HN, hPr⟩ := hrel
    clear HA hP
    by_cases hlt : p < l.length
    · have d1 : (p : Int) < l.length := by omega
      have d2 : 0 ≤ (p : Int) ∧ (p : Int) < l.length := by omega
      have d3 : 0 ≤ (p : Int) ∧ (p : Int) ≤ l.length := by omega
      have hnx : nth l p = (l[p].toNat : Int) := nth_eq hlt
      have hdr : l.drop p = l[p] :: l.drop (p + 1) := List.drop_eq_getElem_cons hlt
      obtain ⟨b, hb⟩ : ∃ b, b = l[p] := ⟨_, rfl⟩
      rw [← hb] at hnx hdr
      have hib2 := hib b
      have hbi2 := hbi b
      clear hib hbi hb
      generalize (Lib.indexByte [32, 9, 13] ((b.toNat : Int).toNat.toUInt8)) = z at *
      cases hbl : Lx.blank b
      · rw [hbl] at hbi2
        have hnext := fun W hW => lnext_any (l.drop p) m W (by rw [List.length_drop]; omega) hW (by rw [List.length_drop]; omega)
        have hone := one_i (l.drop p)
        have hlen := fun h => Lx.one_len (l := l.drop p) h
        have hN2 := HN.out
        rw [hdr] at hN2
        have hbad := fun h => Lx.walk_bad (p := p) (r := l.drop (p + 1)) hbl h
        have htok := fun h => Lx.walk_tok (p := p) (r := l.drop (p + 1)) hbl h
        rw [← hdr] at hN2 hbad htok
        rw [List.length_drop] at hone hlen
        have hLW : LexW m wr := by
          obtain ⟨A, c, _, _, hBW⟩ := hPr
          exact hw.below hBW
        generalize (b.toNat : Int) = x at *
        have HD := Lib.hid (And.intro hN2 (And.intro hbad htok))
        clear HN hdr hN2 hbad htok hbl
        generalize hx : Lx.one (l.drop p) = q at *
        have HQ := Lib.hid hx
        clear hx
        obtain ⟨qk, qn, qi, qe⟩ := q
        unfold tlA tlC at hnext
        simp only at hone hlen hnext
        go_wp2_with fail
        refine (hib2 _).mono ?_
        rintro e w2 ⟨rfl, rfl⟩
        go_wp2_with fail
        refine (hnext _ hLW).mono ?_
        rintro e w2 ⟨rfl, hB2⟩
        clear hib2 hbi2 hnext
        have hP2 := hPr.below hB2
        by_cases hqe : qe = 0
        · subst hqe
          have hl2 := hlen rfl
          have hw2 : IntKind.i64.wrap ((p : Int) + qn) = (p : Int) + qn := IntWalk.i64_in _ (by omega)
          have g1 : 0 ≤ (p : Int) ∧ (p : Int) ≤ (p : Int) + qn ∧ (p : Int) + qn ≤ l.length := by omega
          have g2 : ((p : Int) + qn).toNat - p = qn := by omega
          have hpf := fun W h => lparsef_any w B pre ⟨qk, (l.drop p).take qn, p⟩ W h hB (by omega)
          have HN2 : Hid (ans.1 = (pre ++ [⟨qk, (l.drop p).take qn, p⟩]) ++ (Lx.walk (p + qn) (l.drop (p + qn))).1 ∧ ans.2 = (Lx.walk (p + qn) (l.drop (p + qn))).2) := by
            have h1 := HD.out
            have h2 := h1.2.2 rfl
            rw [h2, List.drop_drop] at h1
            exact ⟨by rw [h1.1.1]; simp, h1.1.2⟩
          clear HD HQ hlen hone
          unfold tokA tokC at hpf
          simp only at hpf
          go_wp2_with fail
          have hP3 := hP2.below ((Below.refl _ w2).alloc (Nat.le_refl _) (.cells #[.int .i64 qk, .int .i64 qn, .int .i64 qi, .int .i64 0] 53))
          have hbk := Blk.new w2 53 #[.int .i64 qk, .int .i64 qn, .int .i64 qi, .int .i64 0]
          have hne : w2.heap.size ≠ B := by
            obtain ⟨A, c, hb, _⟩ := hP2
            have := hb.lt
            omega
          generalize w2.alloc (.cells #[.int .i64 qk, .int .i64 qn, .int .i64 qi, .int .i64 0] 53) = W3 at *
          generalize w2.heap.size = tb at *
          have k0 : W3.cell? ⟨tb, 0, none⟩ = some (.int .i64 qk) := hbk.cell 0
          have k1 : W3.cell? ⟨tb, 1, none⟩ = some (.int .i64 qn) := hbk.cell 1
          have hP4 : PI w B pre W3.drew := hP3.below (below_drewN_self _ _ 1)
          go_still_tail 12, (by kernel_rfl)
          go_wp2_with fail
          refine (hpf _ hP4).mono ?_
          rintro e W5 ⟨rfl, hP5, hk5⟩
          have k5 : W5.cell? ⟨tb, 1, none⟩ = some (.int .i64 qn) := (hk5 tb _ hne hbk).cell 1
          clear hk5 k0 k1 hbk hP4 hP3 hpf
          go_wp2_with fail
          go_roundg (l.length - (p + qn))
          case measure => omega
          case rel => exact ⟨p + qn, pre ++ [⟨qk, (l.drop p).take qn, p⟩], rfl, by simp, by omega, by simp; omega, HN2, hP5⟩
        · have hqb : ((qe : Int) != 0) = true := by simp; omega
          have hw2 : IntKind.i64.wrap ((p : Int) + qi) = (p : Int) + qi := IntWalk.i64_in _ (by omega)
          have hfin : ans.1 = pre ∧ ans.2 = (((p + qi : Nat) : Int), qe) := by
            have h1 := HD.out
            have h2 := h1.2.1 hqe
            rw [h2] at h1
            exact ⟨by rw [h1.1.1]; simp, h1.1.2⟩
          have HF := Lib.hid hfin
          clear hfin HD HQ hlen hone
          go_wp2_with fail
          go_region
          all_goals
            go_wp2
            rw [Exit.noGoto_ret]
            go_returns
            refine ⟨?_, ?_⟩
            · rw [HF.out.2, Int.natCast_add]; rfl
            · rw [HF.out.1]
              exact (hP2.below ((Below.refl _ w2).alloc (Nat.le_refl _) _)).below (below_drewN_self _ _ 1)
      · rw [hbl] at hbi2
        have HN2 : Hid (ans.1 = pre ++ (Lx.walk (p + 1) (l.drop (p + 1))).1 ∧ ans.2 = (Lx.walk (p + 1) (l.drop (p + 1))).2) := by
          have h := HN.out
          rw [hdr, Lx.walk_blank hbl] at h
          exact h
        have hw1 : IntKind.i64.wrap ((p : Int) + 1) = (p : Int) + 1 := IntWalk.i64_in _ (by omega)
        clear HN hdr
        generalize (b.toNat : Int) = x at *
        go_wp2_with fail
        refine (hib2 _).mono ?_
        rintro e w2 ⟨rfl, rfl⟩
        go_wp2_with fail
        go_roundg (l.length - (p + 1))
        case measure => omega
        case rel => exact ⟨p + 1, pre, rfl, by simp, hlt, by omega, HN2, hPr⟩
    · obtain rfl : p = l.length := by omega
      have hfin : ans.1 = pre ∧ ans.2 = (-1, 0) := by
        have h := HN.out
        rw [List.drop_eq_nil_of_le (Nat.le_refl _), Lx.walk_nil] at h
        exact ⟨by simpa using h.1, h.2⟩
      have HF := Lib.hid hfin
      clear hfin HN hib hbi
      have d1 : ¬(l.length : Int) < l.length := by omega
      go_wp2_with fail
      go_returns
      refine ⟨?_, ?_⟩
      · rw [HF.out.2]; rfl
      · rw [HF.out.1]; exact hPr

/-- What Parse leaves: a slice of the call's own that holds the tokens, if all is well; where and why it goes wrong. -/
def LexPost (w : World) (x : List Lx.Tok × Int × Nat) (e : Ending) (w' : World) : Prop :=
  ∃ A n c, e = .returned (.tuple #[.slice A n c, .int .i64 x.2.1, .int .i64 x.2.2]) ∧ w'.ownsRow w.heap.size 33 3 (.slice A n c) n (tval (if x.2.2 = 0 then x.1 else [])) ∧ Below w.heap.size w w'

set_option maxHeartbeats 2000000 in
set_option maxRecDepth 100000 in
theorem lparse_any (l : List UInt8) (m : Int) (w : World) (hw : LexW m w) (hl : l.length ≤ 1000000) :
    Calls Tryd.prog 9 #[.string (str l)] w (LexPost w (Lx.walk 0 l)) := by
  have hwalk := fun W hP => lwalk_parse l m w w.heap.size W hw hP (Nat.le_refl _) hl
  have hP0 : PI w w.heap.size [] (w.alloc (.cells #[.slice none 0 0] 23)) := ⟨none, 0, Boxed.new w _ _, World.ownsRow_nil _ _ _ _, (Below.refl _ w).alloc (Nat.le_refl _) _⟩
  obtain ⟨ans, hans⟩ : ∃ ans, ans = Lx.walk 0 l := ⟨_, rfl⟩
  rw [← hans] at hwalk ⊢
  clear hans
  go_enter Tryd.func9, Tryd.ntmps9
  go_wp2_with fail
  refine (hwalk _ hP0).mono ?_
  rintro e w2 ⟨rfl, A, c, hb, hrow, hBW⟩
  have hc := hb.cell
  have hf := hb.frozen
  have hcs := fun v => (hb.set v).cell
  clear hwalk hP0
  obtain ⟨toks, pa, er⟩ := ans
  simp only at hb hrow hc ⊢
  by_cases he : er = 0
  · subst he
    go_wp2
    refine bodyPost_ret (v := .tuple #[.slice A toks.length c, .int .i64 pa, .int .i64 0]) (by simp [results, Tryd.results9, go_sem, hcs]) rfl ?_
    refine ⟨A, toks.length, c, rfl, ?_, hBW.setCell (p := ⟨w.heap.size, 0, none⟩) (Nat.le_refl _) _⟩
    rw [if_pos rfl]
    exact hrow.kept (grownBy_setCell' w2 w.heap.size _) (.inr (hb.not_row (by decide) hrow).symm)
  · have heb : ((er : Int) != 0) = true := by simp; omega
    go_wp2
    refine bodyPost_ret (v := .tuple #[.slice none 0 0, .int .i64 pa, .int .i64 er]) (by simp [results, Tryd.results9, go_sem, hcs]) rfl ?_
    refine ⟨none, 0, 0, rfl, ?_, hBW.setCell (p := ⟨w.heap.size, 0, none⟩) (Nat.le_refl _) _⟩
    rw [if_neg he]
    exact World.ownsRow_nil _ _ _ _
end Go.Proofs.YthabfgpncebigaaDoor

/- tabulariumref11: one. -/
namespace Go.Proofs.YthabfgpncebigaaDoor
open Go.RowKit

theorem RTold.below {w w' : World} {l : List UInt8} {p : Nat} {x : Lx.Tl} {e : Ending} (h : RTold w l p x e w') : Below w.heap.size w w' := by
  cases h <;> assumption
theorem blk_later {g : Nat} {t : TypeId} {cs : Array Value} {a b : World} {d : Nat} {os : Array Obj} (h : Blk g t cs (later a d os)) (hg : a.heap.size ≤ g) (hs : b.heap.size = a.heap.size) : Blk g t cs (later b d os) := by
  unfold Blk later at h ⊢
  simp only [Array.getElem?_append] at h ⊢
  rw [if_neg (by omega)] at h ⊢
  rw [hs]; exact h
/-- How the document's function ends with a token, or without one. -/
theorem rone_tok {w : World} {l : List UInt8} {p : Nat} {x : Lx.Tl} {o1 o2 : Obj} {d g : Nat} {os : Array Obj} (h0 : x.e = 0) (hb : Blk g 33 (tokC ⟨x.k, (l.drop p).take x.n, p⟩) (later (w.alloc o1) d os)) (hg : (w.alloc o1).heap.size ≤ g) :
    RTold w l p x (.returned (.agg #[.slice (some ⟨g, 0, none⟩) 1 1, .int .i64 0, .int .i64 0])) (later (w.alloc o2) d os) :=
  RTold.tok g _ h0 (blk_later hb hg (by simp)) (by simp at hg; omega) (below_later' ((Below.refl _ w).alloc (Nat.le_refl _) _) (by simp) _ _)
theorem rone_bad {w : World} {l : List UInt8} {p i e : Nat} {x : Lx.Tl} {o2 : Obj} {d : Nat} {os : Array Obj} (hx : x = ⟨0, 0, i, e⟩ ∨ (x.i = i ∧ x.e = e)) (h0 : e ≠ 0) (j : Int) (hj : j = ((p + i : Nat) : Int)) :
    RTold w l p x (.returned (.agg #[.slice none 0 0, .int .i64 j, .int .i64 e])) (later (w.alloc o2) d os) := by
  have h1 : x.i = i ∧ x.e = e := by
    rcases hx with rfl | h
    · exact ⟨rfl, rfl⟩
    · exact h
  obtain ⟨rfl, rfl⟩ := h1
  rw [hj]
  exact RTold.bad _ h0 (below_later' ((Below.refl _ w).alloc (Nat.le_refl _) _) (by simp) _ _)
theorem trim_snoc (t : List UInt8) (b : UInt8) : Lx.trim (t ++ [b]) = if Lx.blank b = true then Lx.trim t else t ++ [b] := by
  unfold Lx.trim Lib.trimRightS
  rw [List.reverse_append, List.reverse_singleton, List.singleton_append, List.dropWhile_cons]
  show (if Lx.blank b = true then _ else _ : List UInt8).reverse = _
  split
  · rfl
  · simp

set_option maxHeartbeats 4000000 in
set_option maxRecDepth 100000 in
theorem rone_any (l : List UInt8) (p : Nat) (w : World) (hp : p < l.length) (hl : l.length ≤ 1000000) :
    Calls Tryd.prog 23 #[.string (str l), .int .i64 p] w (RTold w l p (Lx.one (l.drop p))) := by
  have hx0 : nth l p = (l[p].toNat : Int) := nth_eq hp
  obtain ⟨b, hb⟩ : ∃ b, b = l[p] := ⟨_, rfl⟩
  have hd0 : 0 < (l.drop p).length := by rw [List.length_drop]; omega
  have hone := one_at hd0 (show b = (l.drop p)[0] by rw [hb]; simp)
  have hdl : (l.drop p).length = l.length - p := List.length_drop
  rw [← hb] at hx0
  obtain ⟨ans, hans⟩ : ∃ ans, ans = Lx.one (l.drop p) := ⟨_, rfl⟩
  rw [← hans] at hone ⊢
  have HO := Lib.hid hone
  have hd : Nm.dig b = (decide ((48 : Int) ≤ b.toNat) && decide ((b.toNat : Int) ≤ 57)) := dig_int b
  have hlb := rletter_any b
  have hi : ∀ c : UInt8, (b = c) ↔ ((b.toNat : Int) = (c.toNat : Int)) := fun c => ⟨fun h => by rw [h], fun h => UInt8.toNat_inj.1 (by omega)⟩
  have e1 : 0 ≤ (p : Int) ∧ (p : Int) < l.length := by omega
  have e2 : 0 ≤ (p : Int) ∧ (p : Int) ≤ l.length := by omega
  have HB := Lib.hid hb
  clear hone hans hb
  obtain ⟨x, hx⟩ : ∃ x : Int, (b.toNat : Int) = x := ⟨_, rfl⟩
  rw [hx] at hd hlb hx0
  simp only [hx] at hi
  have HI := Lib.hid hi
  have hz := (laterz (w.alloc (.cells #[.slice none 0 0, .int .i64 0, .int .i64 0] 28))).symm
  generalize hdn : (w.alloc (.cells #[.slice none 0 0, .int .i64 0, .int .i64 0] 28)).drawn = dn at hz
  have HZ := Lib.hid hz
  clear hi hx hdn hz
  go_enter Tryd.func23, Tryd.ntmps23
  go_upto_region 1 with (fail)
  rw [HZ.out]
  clear HZ
  by_cases h10 : b = 10
  · have hx10 : x = 10 := (HI.out 10).1 h10
    have HA : Hid (ans = ⟨5, 1, 0, 0⟩) := by have h := HO.out; rw [if_pos h10] at h; exact h
    have htk : ∀ W, Calls Tryd.prog 32 #[.string (str l), .int .i64 p, .int .i64 5, .int .i64 1] W (RTold W l p ⟨5, 1, 0, 0⟩) := fun W => rtoken_any l p 5 1 W (by omega) (by omega)
    clear HO HI hd hlb h10
    subst hx10
    go_wp2_with fail
    refine (htk _).mono ?_
    rintro e w2 hR
    rcases hR with ⟨g, _, h0, hb, hg, hB⟩ | ⟨_, h0, hB⟩
    · obtain ⟨d2, o2, rfl⟩ := later_of_below hB
      rw [later_zl] at hb ⊢
      clear hB htk
      have HH := Lib.hid (And.intro hb hg)
      clear hb hg
      go_wp2_with fail
      go_returns
      rw [HA.out]
      exact rone_tok rfl HH.out.1 (by have := HH.out.2; simpa using this)
    · exact absurd rfl h0
  have b10 : (x == 10) = false := by simpa using fun h => h10 ((HI.out 10).2 h)
  have HO1 := Lib.hid (HO.out.trans (if_neg h10))
  clear HO h10
  cases hL : Lx.letter b
  case' true =>
    have HA := Lib.hid (HO1.out.trans (if_pos hL))
    rw [hL] at hlb
    have htk : ∀ (n : Nat) (W : World), p + n ≤ l.length → Calls Tryd.prog 32 #[.string (str l), .int .i64 p, .int .i64 1, .int .i64 n] W (RTold W l p ⟨1, n, 0, 0⟩) := fun n W h => rtoken_any l p 1 n W h (by omega)
    have hnm := tw_yes (p := Lx.lord) hp (by rw [← HB.out]; unfold Lx.lord; rw [hL]; rfl)
    obtain ⟨nm, hnm2⟩ : ∃ nm, nm = Lx.nameL (l.drop p) := ⟨_, rfl⟩
    rw [← hnm2] at HA
    have HN : Hid (nm = 1 + ((l.drop (p + 1)).takeWhile Lx.lord).length) := by
      show nm = _
      rw [hnm2]
      unfold Lx.nameL
      omega
    have hle := rletter_any
    clear HO1 HI hd hL hnm hnm2
    go_wp2_with fail
    refine (hlb _).mono ?_
    rintro e w2 ⟨rfl, rfl⟩
    clear hlb
    go_wp2_with fail
    go_loopg [5] (l.length - (p + 1) + 1) (fun g nv wr => ∃ n : Nat, g = l.length - (p + n) + 1 ∧ nv = .int .i64 n ∧ p + n ≤ l.length ∧ Hid (nm = n + ((l.drop (p + n)).takeWhile Lx.lord).length) ∧ wr = later (w.alloc (.cells #[.slice none 0 0, .int .i64 0, .int .i64 0] 28)) dn #[])
    case atStart => exact ⟨1, rfl, rfl, by omega, HN, rfl⟩
    case round =>
      obtain ⟨n, rfl, rfl, hn, HN2, rfl⟩ := hrel
      clear HN
      have hw1 : IntKind.i64.wrap ((p : Int) + n) = (p : Int) + n := IntWalk.i64_in _ (by omega)
      have hw2 : IntKind.i64.wrap ((n : Int) + 1) = (n : Int) + 1 := IntWalk.i64_in _ (by omega)
      by_cases hlt : p + n < l.length
      · have d1 : (p : Int) + n < l.length := by omega
        have d2 : 0 ≤ (p : Int) + n ∧ (p : Int) + n < l.length := by omega
        have d3 : ((p : Int) + n).toNat = p + n := by omega
        have hnx : nth l (p + n) = (l[p + n].toNat : Int) := nth_eq hlt
        have hyes := tw_yes (p := Lx.lord) hlt
        have hno := tw_no (p := Lx.lord) hlt
        have hlet := hle l[p + n]
        have hdig := dig_int l[p + n]
        generalize l[p + n] = c at *
        cases hc : Lx.letter c
        · have hlord : Lx.lord c = Nm.dig c := by unfold Lx.lord; rw [hc]; rfl
          rw [hlord] at hyes hno
          rw [hc] at hlet
          clear hc hlord
          by_cases h1 : (48 : Int) ≤ c.toNat
          · rw [decide_eq_true h1, Bool.true_and] at hdig
            by_cases h2 : (c.toNat : Int) ≤ 57
            · rw [decide_eq_true h2] at hdig
              have HN3 : Hid (nm = (n + 1) + ((l.drop (p + (n + 1))).takeWhile Lx.lord).length) := by
                have h3 := HN2.out
                rw [hyes hdig] at h3
                show nm = _
                rw [← Nat.add_assoc]
                omega
              clear hyes hno hdig HN2 hle htk
              generalize (c.toNat : Int) = y at *
              go_wp2_with fail
              refine (hlet _).mono ?_
              rintro e w2 ⟨rfl, rfl⟩
              go_wp2_with fail
              go_roundg (l.length - (p + (n + 1)) + 1)
              case measure => omega
              case rel => exact ⟨n + 1, rfl, by simp, by omega, HN3, rfl⟩
            · rw [decide_eq_false h2] at hdig
              have HN3 : Hid (nm = n) := by
                have h3 := HN2.out
                rw [hno hdig] at h3
                exact h3
              rw [HN3.out] at HA
              have htk2 := fun W => htk n W hn
              clear hyes hno hdig HN2 hle htk HN3
              generalize (c.toNat : Int) = y at *
              go_wp2_with fail
              refine (hlet _).mono ?_
              rintro e w2 ⟨rfl, rfl⟩
              go_wp2_with fail
              refine (htk2 _).mono ?_
              rintro e w2 hR
              rcases hR with ⟨g, _, h0, hb, hg, hB⟩ | ⟨_, h0, hB⟩
              · obtain ⟨d2, o2, rfl⟩ := later_of_below hB
                rw [later_zl] at hb ⊢
                clear hB
                have HH := Lib.hid (And.intro hb hg)
                have H0 := Lib.hid h0
                clear hb hg h0
                go_wp2_with fail
                go_returns
                rw [HA.out]
                exact RTold.tok g _ (by first | exact H0.out | rfl) (blk_later HH.out.1 HH.out.2 (by simp)) (by have := HH.out.2; simp at this; omega) (by (repeat' (first | (with_reducible exact Below.refl _ _) | (with_reducible assumption) | (with_reducible refine below_later' ?_ ?_ _ _) | (with_reducible refine Below.alloc ?_ ?_ _) | (with_reducible refine Below.setCell ?_ ?_ _) | (with_reducible refine Below.drew ?_) | (with_reducible refine below_drewN ?_ _) | (with_reducible exact Nat.le_refl _) | omega | (simp; done) | (simp; omega))))
              · exact absurd rfl h0
          · rw [decide_eq_false h1, Bool.false_and] at hdig
            have HN3 : Hid (nm = n) := by
              have h3 := HN2.out
              rw [hno hdig] at h3
              exact h3
            rw [HN3.out] at HA
            have htk2 := fun W => htk n W hn
            clear hyes hno hdig HN2 hle htk HN3
            generalize (c.toNat : Int) = y at *
            go_wp2_with fail
            refine (hlet _).mono ?_
            rintro e w2 ⟨rfl, rfl⟩
            go_wp2_with fail
            refine (htk2 _).mono ?_
            rintro e w2 hR
            rcases hR with ⟨g, _, h0, hb, hg, hB⟩ | ⟨_, h0, hB⟩
            · obtain ⟨d2, o2, rfl⟩ := later_of_below hB
              rw [later_zl] at hb ⊢
              clear hB
              have HH := Lib.hid (And.intro hb hg)
              have H0 := Lib.hid h0
              clear hb hg h0
              go_wp2_with fail
              go_returns
              rw [HA.out]
              exact RTold.tok g _ (by first | exact H0.out | rfl) (blk_later HH.out.1 HH.out.2 (by simp)) (by have := HH.out.2; simp at this; omega) (by (repeat' (first | (with_reducible exact Below.refl _ _) | (with_reducible assumption) | (with_reducible refine below_later' ?_ ?_ _ _) | (with_reducible refine Below.alloc ?_ ?_ _) | (with_reducible refine Below.setCell ?_ ?_ _) | (with_reducible refine Below.drew ?_) | (with_reducible refine below_drewN ?_ _) | (with_reducible exact Nat.le_refl _) | omega | (simp; done) | (simp; omega))))
            · exact absurd rfl h0
        · have HN3 : Hid (nm = (n + 1) + ((l.drop (p + (n + 1))).takeWhile Lx.lord).length) := by
            have h3 := HN2.out
            rw [hyes (by unfold Lx.lord; rw [hc]; rfl)] at h3
            show nm = _
            rw [← Nat.add_assoc]
            omega
          rw [hc] at hlet
          clear hyes hno hdig HN2 hc hle htk
          generalize (c.toNat : Int) = y at *
          go_wp2_with fail
          refine (hlet _).mono ?_
          rintro e w2 ⟨rfl, rfl⟩
          go_wp2_with fail
          go_roundg (l.length - (p + (n + 1)) + 1)
          case measure => omega
          case rel => exact ⟨n + 1, rfl, by simp, by omega, HN3, rfl⟩
      · have d1 : ¬(p : Int) + n < l.length := by omega
        have HN3 : Hid (nm = n) := by
          have h3 := HN2.out
          rw [tw_end hlt] at h3
          exact h3
        rw [HN3.out] at HA
        have htk2 := fun W => htk n W hn
        clear HN2 hle htk HN3
        go_wp2_with fail
        refine (htk2 _).mono ?_
        rintro e w2 hR
        rcases hR with ⟨g, _, h0, hb, hg, hB⟩ | ⟨_, h0, hB⟩
        · obtain ⟨d2, o2, rfl⟩ := later_of_below hB
          rw [later_zl] at hb ⊢
          clear hB
          have HH := Lib.hid (And.intro hb hg)
          have H0 := Lib.hid h0
          clear hb hg h0
          go_wp2_with fail
          go_returns
          rw [HA.out]
          exact RTold.tok g _ (by first | exact H0.out | rfl) (blk_later HH.out.1 HH.out.2 (by simp)) (by have := HH.out.2; simp at this; omega) (by (repeat' (first | (with_reducible exact Below.refl _ _) | (with_reducible assumption) | (with_reducible refine below_later' ?_ ?_ _ _) | (with_reducible refine Below.alloc ?_ ?_ _) | (with_reducible refine Below.setCell ?_ ?_ _) | (with_reducible refine Below.drew ?_) | (with_reducible refine below_drewN ?_ _) | (with_reducible exact Nat.le_refl _) | omega | (simp; done) | (simp; omega))))
        · exact absurd rfl h0
  rw [hL] at hlb
  have HO2 := Lib.hid (HO1.out.trans (if_neg (by rw [hL]; simp)))
  clear HO1 hL
  go_wp2_with fail
  refine (hlb _).mono ?_
  rintro e w2 ⟨rfl, rfl⟩
  clear hlb
  -- a number
  cases hD : Nm.dig b
  case' true =>
    have HA := Lib.hid (HO2.out.trans (if_pos hD))
    have hd2 := hD
    rw [hd, Bool.and_eq_true, decide_eq_true_eq, decide_eq_true_eq] at hd2
    obtain ⟨g1, g2⟩ := hd2
    have hsc := fun W => rscan_any (l.drop p) W (by omega)
    have hsl := Nm.scan_le (l.drop p)
    have hnp := fun t W h => rparse_any t W h
    have htk : ∀ (n : Nat) (W : World), p + n ≤ l.length → Calls Tryd.prog 32 #[.string (str l), .int .i64 p, .int .i64 2, .int .i64 n] W (RTold W l p ⟨2, n, 0, 0⟩) := fun n W h => rtoken_any l p 2 n W h (by omega)
    rw [hdl] at hsl
    clear HO2 HI hd hD
    generalize Nm.scan (l.drop p) = sc at *
    have hw1 : IntKind.i64.wrap ((p : Int) + sc) = (p : Int) + sc := IntWalk.i64_in _ (by omega)
    have g3 : 0 ≤ (p : Int) ∧ (p : Int) ≤ (p : Int) + sc ∧ (p : Int) + sc ≤ l.length := by omega
    have g4 : ((p : Int) + sc).toNat - p = sc := by omega
    have htk2 := fun W => htk sc W (by omega)
    clear htk
    go_wp2_with fail
    refine (hsc _).mono ?_
    rintro e w3 ⟨rfl, rfl⟩
    go_wp2_with fail
    refine (hnp _ _ (by rw [List.length_take]; omega)).mono ?_
    rintro e w3 ⟨rfl, hB3⟩
    obtain ⟨d3, o3, rfl⟩ := later_of_below hB3
    rw [later_zl]
    clear hsc hnp hB3
    generalize Nm.numV ((l.drop p).take sc) = nv at *
    obtain ⟨⟨ng, ds, ex⟩, er⟩ := nv
    unfold numA
    by_cases her : er = 0
    · subst her
      go_wp2_with fail
      refine (htk2 _).mono ?_
      rintro e w2 hR
      rcases hR with ⟨g, _, h0, hb, hg, hB⟩ | ⟨_, h0, hB⟩
      · obtain ⟨d2, o2, rfl⟩ := later_of_below hB
        clear hB
        have HH := Lib.hid (And.intro hb hg)
        have H0 := Lib.hid h0
        clear hb hg h0
        go_wp2_with fail
        go_returns
        rw [HA.out]
        exact RTold.tok g _ (by first | exact H0.out | rfl) (blk_later HH.out.1 HH.out.2 (by simp)) (by have := HH.out.2; simp at this; omega) (by (repeat' (first | (with_reducible exact Below.refl _ _) | (with_reducible assumption) | (with_reducible refine below_later' ?_ ?_ _ _) | (with_reducible refine Below.alloc ?_ ?_ _) | (with_reducible refine Below.setCell ?_ ?_ _) | (with_reducible refine Below.drew ?_) | (with_reducible refine below_drewN ?_ _) | (with_reducible exact Nat.le_refl _) | omega | (simp; done) | (simp; omega))))
      · exact absurd rfl h0
    · have heb : ((er : Int) != 0) = true := by simp; omega
      have HE := Lib.hid her
      clear her
      go_wp2_with fail
      go_returns
      rw [HA.out]
      exact RTold.bad _ HE.out (by (repeat' (first | (with_reducible exact Below.refl _ _) | (with_reducible assumption) | (with_reducible refine below_later' ?_ ?_ _ _) | (with_reducible refine Below.alloc ?_ ?_ _) | (with_reducible refine Below.setCell ?_ ?_ _) | (with_reducible refine Below.drew ?_) | (with_reducible refine below_drewN ?_ _) | (with_reducible exact Nat.le_refl _) | omega | (simp; done) | (simp; omega))))
  have HO3 := Lib.hid (HO2.out.trans (if_neg (by rw [hD]; simp)))
  have HD := Lib.hid (hd.symm.trans hD)
  clear HO2 hd hD
  go_upto_region 8 with (fail)
  go_cut [73] from 74 (fun v wx => v = .bool false ∧ wx = later (w.alloc (.cells #[.slice none 0 0, .int .i64 0, .int .i64 0] 28)) dn #[])
  case first =>
    by_cases h1 : 48 ≤ x
    · have h2 : ¬x ≤ 57 := fun h => by
        have := HD.out
        rw [decide_eq_true h1, decide_eq_true h] at this
        cases this
      go_wp2_with fail
      go_meet
      exact ⟨rfl, rfl⟩
    · go_wp2_with fail
      go_meet
      exact ⟨rfl, rfl⟩
  obtain ⟨rfl, rfl⟩ := hcut
  clear HD
  -- a quoted text
  by_cases h34 : b = 34
  · have hx34 : x = 34 := (HI.out 34).1 h34
    have HA := Lib.hid (HO3.out.trans (if_pos h34))
    have htk : ∀ (n : Nat) (W : World), p + n ≤ l.length → Calls Tryd.prog 32 #[.string (str l), .int .i64 p, .int .i64 3, .int .i64 n] W (RTold W l p ⟨3, n, 0, 0⟩) := fun n W h => rtoken_any l p 3 n W h (by omega)
    have hqn := fun h => (Lx.qscan_n (l := l.drop p) h).2
    rw [hdl] at hqn
    have hq := fun W => rqscan_any (l.drop p) W (by omega)
    clear HO3 HI h34
    subst hx34
    generalize Qt.scan (l.drop p) = q at *
    obtain ⟨qs, qn, qe⟩ := q
    unfold ptv at hq
    simp only at hq hqn
    go_wp2_with fail
    refine (hq _).mono ?_
    rintro e w3 ⟨rfl, hB3⟩
    obtain ⟨d3, o3, rfl⟩ := later_of_below hB3
    rw [later_zl]
    clear hq hB3
    by_cases her : qe = 0
    · subst her
      have htk2 := fun W => htk qn W (by have := hqn rfl; omega)
      clear htk hqn
      go_wp2_with fail
      refine (htk2 _).mono ?_
      rintro e w2 hR
      rcases hR with ⟨g, _, h0, hb, hg, hB⟩ | ⟨_, h0, hB⟩
      · obtain ⟨d2, o2, rfl⟩ := later_of_below hB
        clear hB
        have HH := Lib.hid (And.intro hb hg)
        have H0 := Lib.hid h0
        clear hb hg h0
        go_wp2_with fail
        go_returns
        rw [HA.out]
        exact RTold.tok g _ (by first | exact H0.out | rfl) (blk_later HH.out.1 HH.out.2 (by simp)) (by have := HH.out.2; simp at this; omega) (by (repeat' (first | (with_reducible exact Below.refl _ _) | (with_reducible assumption) | (with_reducible refine below_later' ?_ ?_ _ _) | (with_reducible refine Below.alloc ?_ ?_ _) | (with_reducible refine Below.setCell ?_ ?_ _) | (with_reducible refine Below.drew ?_) | (with_reducible refine below_drewN ?_ _) | (with_reducible exact Nat.le_refl _) | omega | (simp; done) | (simp; omega))))
      · exact absurd rfl h0
    · have heb : ((qe : Int) != 0) = true := by simp; omega
      have HE := Lib.hid her
      clear her htk hqn
      go_wp2_with fail
      go_returns
      rw [HA.out]
      exact RTold.bad _ HE.out (by (repeat' (first | (with_reducible exact Below.refl _ _) | (with_reducible assumption) | (with_reducible refine below_later' ?_ ?_ _ _) | (with_reducible refine Below.alloc ?_ ?_ _) | (with_reducible refine Below.setCell ?_ ?_ _) | (with_reducible refine Below.drew ?_) | (with_reducible refine below_drewN ?_ _) | (with_reducible exact Nat.le_refl _) | omega | (simp; done) | (simp; omega))))
  have HO4 := Lib.hid (HO3.out.trans (if_neg h34))
  have b34 : (x == 34) = false := by simpa using fun h => h34 ((HI.out 34).2 h)
  clear HO3 h34
  -- a comment up to the line's end
  have his : ∀ (v : List UInt8) (W : World), v.length ≤ 10 → Calls Tryd.prog 37 #[.string (str l), .int .i64 p, .string (str v)] W fun e w' => e = .returned (.bool (v.isPrefixOf (l.drop p))) ∧ W = w' := fun v W h => ris_any l p v W (by omega) (by omega)
  have hpp := fun W => his [47, 47] W (by decide)
  have hpa := fun W => his [47, 42] W (by decide)
  have hend := fun W => rend_any l p W (by omega) (by omega)
  have hll := Lx.line_le (l.drop p)
  have hlt : ∀ n, n ≤ (Lx.line (l.drop p)).length → (l.drop p).take n = (Lx.line (l.drop p)).take n := fun n h => by
    have h1 : Lx.line (l.drop p) = (l.drop p).take (Lx.line (l.drop p)).length := List.prefix_iff_eq_take.1 (List.takeWhile_prefix _)
    conv => rhs; rw [h1, List.take_take, Nat.min_eq_left h]
  by_cases hR : b = 35 ∨ [47, 47].isPrefixOf (l.drop p) = true
  · have HA := Lib.hid (HO4.out.trans (if_pos hR))
    have hbn : Lx.blank b = false ∧ b ≠ 10 := by
      rcases hR with h | h
      · rw [h]; decide
      · have h2 : l.drop p = b :: l.drop (p + 1) := by rw [HB.out]; exact List.drop_eq_getElem_cons hp
        rw [h2] at h
        have : b = 47 := by simp [List.isPrefixOf] at h; exact h.1.symm
        rw [this]; decide
    have hl0 : Lx.line (l.drop p) = b :: Lx.line (l.drop (p + 1)) := by
      have h2 : l.drop p = b :: l.drop (p + 1) := by rw [HB.out]; exact List.drop_eq_getElem_cons hp
      rw [h2]
      unfold Lx.line
      rw [List.takeWhile_cons, if_pos (by simpa using hbn.2)]
    have hlp : 1 ≤ (Lx.line (l.drop p)).length := by rw [hl0]; simp
    have hln0 : ∀ h : 0 < (Lx.line (l.drop p)).length, Lx.blank (Lx.line (l.drop p))[0] = false := fun h => by
      have : (Lx.line (l.drop p))[0] = b := by simp only [hl0, List.getElem_cons_zero]
      rw [this]; exact hbn.1
    clear HO4
    rw [hdl] at hll
    go_upto_region 19 with (fail)
    go_cut [125] from 126 (fun v wx => v = .bool true ∧ wx = later (w.alloc (.cells #[.slice none 0 0, .int .i64 0, .int .i64 0] 28)) dn #[])
    case first =>
      by_cases h35 : x = 35
      · have b35 : (x == 35) = true := by simpa using h35
        clear h35 hR hl0
        go_wp2_with fail
        go_meet
        exact ⟨rfl, rfl⟩
      · have b35 : (x == 35) = false := by simpa using h35
        have hp1 : [47, 47].isPrefixOf (l.drop p) = true := hR.resolve_left fun h => h35 ((HI.out 35).1 h)
        rw [hp1] at hpp
        clear h35 hR hp1 hl0
        go_wp2_with fail
        refine (hpp _).mono ?_
        rintro e w3 ⟨rfl, rfl⟩
        go_wp2_with fail
        go_meet
        exact ⟨rfl, rfl⟩
    obtain ⟨rfl, rfl⟩ := hcut
    have hcm : ∀ (k : Nat) (W : World), k ≤ l.length - p → Calls Tryd.prog 39 #[.string (str l), .int .i64 p, .int .i64 ((p + k : Nat) : Int), .int .i64 6] W (RTold W l p (Lx.rem 6 ((l.drop p).take k))) := fun k W h => by
      have h2 := rcomment_any l p (p + k) 6 W (by omega) (by omega) (by omega)
      rw [show p + k - p = k by omega] at h2
      exact h2
    have hgb : ∀ k, (hk : k < (Lx.line (l.drop p)).length) → nth l (p + k) = ((Lx.line (l.drop p))[k].toNat : Int) := fun k hk => by
      rw [nth_eq (by omega)]
      have h1 := hlt (k + 1) hk
      have h2 : ((l.drop p).take (k + 1))[k]? = ((Lx.line (l.drop p)).take (k + 1))[k]? := by rw [h1]
      rw [List.getElem?_take_of_lt (by omega), List.getElem?_take_of_lt (by omega), List.getElem?_drop, List.getElem?_eq_getElem (by omega), List.getElem?_eq_getElem hk] at h2
      rw [Option.some.inj h2]
    have hbk := rblank_any
    clear hR HI hpp hpa his hl0 hbn
    have HLT := Lib.hid hlt
    have HGB := Lib.hid hgb
    have HL0 := Lib.hid hln0
    clear hlt hgb hln0
    generalize Lx.line (l.drop p) = ln at *
    go_wp2_with fail
    refine (hend _).mono ?_
    rintro e w3 ⟨rfl, rfl⟩
    clear hend
    go_wp2_with fail
    go_loopg [10] (ln.length + 1) (fun g sv wr => ∃ k : Nat, g = k + 1 ∧ sv = .int .i64 ((p + k : Nat) : Int) ∧ 1 ≤ k ∧ k ≤ ln.length ∧ Hid (Lx.trim ln = Lx.trim (ln.take k)) ∧ wr = later (w.alloc (.cells #[.slice none 0 0, .int .i64 0, .int .i64 0] 28)) dn #[])
    case atStart => exact ⟨ln.length, rfl, rfl, hlp, Nat.le_refl _, by show _ = _; rw [List.take_length], rfl⟩
    case round =>
      obtain ⟨k, rfl, rfl, hk1, hk2, HK, rfl⟩ := hrel
      obtain ⟨j, rfl⟩ : ∃ j, k = j + 1 := ⟨k - 1, by omega⟩
      have hgj := HGB.out j (by omega)
      have htk : ln.take (j + 1) = ln.take j ++ [ln[j]] := List.take_succ_eq_append_getElem (by omega)
      have hsn := trim_snoc (ln.take j) ln[j]
      rw [← htk] at hsn
      have hbj := hbk ln[j]
      have HJ0 : Hid (j = 0 → Lx.blank ln[j] = false) := by rintro rfl; exact HL0.out (by omega)
      clear HGB HL0 hbk
      generalize ln[j] = c at *
      have g1 : IntKind.i64.wrap (((p + (j + 1) : Nat) : Int) - 1) = (p : Int) + j := by rw [IntWalk.i64_in _ (by omega)]; omega
      have g2 : 0 ≤ (p : Int) + j ∧ (p : Int) + j < l.length := by omega
      have g3 : ((p : Int) + j).toNat = p + j := by omega
      cases hcb : Lx.blank c
      · rw [hcb] at hbj
        have htr : Lx.trim ln = (l.drop p).take (j + 1) := by
          rw [HLT.out _ hk2, HK.out, hsn, hcb, if_neg (by simp)]
        rw [htr] at HA
        have hcm2 := fun W => hcm (j + 1) W (by omega)
        clear htr HK hsn htk HJ0 hcb hcm HLT
        obtain ⟨st, hst⟩ : ∃ st : Int, st = ((p + (j + 1) : Nat) : Int) := ⟨_, rfl⟩
        rw [← hst] at g1 hcm2 ⊢
        generalize (c.toNat : Int) = y at *
        clear hst
        go_wp2_with fail
        refine (hbj _).mono ?_
        rintro e w3 ⟨rfl, rfl⟩
        go_wp2_with fail
        refine (hcm2 _).mono ?_
        rintro e w2 hR
        rcases hR with ⟨g, _, h0, hb, hg, hB⟩ | ⟨_, h0, hB⟩
        · obtain ⟨d2, o2, rfl⟩ := later_of_below hB
          rw [later_zl] at hb ⊢
          clear hB
          have HH := Lib.hid (And.intro hb hg)
          have H0 := Lib.hid h0
          clear hb hg h0
          go_wp2_with fail
          go_returns
          rw [HA.out]
          exact RTold.tok g _ (by first | exact H0.out | rfl) (blk_later HH.out.1 HH.out.2 (by simp)) (by have := HH.out.2; simp at this; omega) (by (repeat' (first | (with_reducible exact Below.refl _ _) | (with_reducible assumption) | (with_reducible refine below_later' ?_ ?_ _ _) | (with_reducible refine Below.alloc ?_ ?_ _) | (with_reducible refine Below.setCell ?_ ?_ _) | (with_reducible refine Below.drew ?_) | (with_reducible refine below_drewN ?_ _) | (with_reducible exact Nat.le_refl _) | omega | (simp; done) | (simp; omega))))
        · obtain ⟨d2, o2, rfl⟩ := later_of_below hB
          rw [later_zl]
          have H0 := Lib.hid h0
          clear hB h0
          go_wp2_with fail
          go_returns
          rw [HA.out]
          exact RTold.bad _ H0.out (by (repeat' (first | (with_reducible exact Below.refl _ _) | (with_reducible assumption) | (with_reducible refine below_later' ?_ ?_ _ _) | (with_reducible refine Below.alloc ?_ ?_ _) | (with_reducible refine Below.setCell ?_ ?_ _) | (with_reducible refine Below.drew ?_) | (with_reducible refine below_drewN ?_ _) | (with_reducible exact Nat.le_refl _) | omega | (simp; done) | (simp; omega))))
      · rw [hcb] at hbj
        have hj0 : 0 < j := Nat.pos_of_ne_zero fun h => by have := HJ0.out h; rw [hcb] at this; cases this
        have HK2 : Hid (Lx.trim ln = Lx.trim (ln.take j)) := by
          show _ = _
          rw [HK.out, hsn, hcb, if_pos rfl]
        clear HK hsn htk HJ0 hcb hcm HLT
        obtain ⟨st, hst⟩ : ∃ st : Int, st = ((p + (j + 1) : Nat) : Int) := ⟨_, rfl⟩
        rw [← hst] at g1 ⊢
        generalize (c.toNat : Int) = y at *
        clear hst
        go_wp2_with fail
        refine (hbj _).mono ?_
        rintro e w3 ⟨rfl, rfl⟩
        go_wp2_with fail
        go_roundg (j + 1)
        case measure => omega
        case rel => exact ⟨j, rfl, by simp, hj0, by omega, HK2, rfl⟩
  have HO5 := Lib.hid (HO4.out.trans (if_neg hR))
  have hx35 : (x == 35) = false := by simpa using fun h => hR (.inl ((HI.out 35).2 h))
  have hp47 : [47, 47].isPrefixOf (l.drop p) = false := Bool.eq_false_iff.2 fun h => hR (.inr h)
  rw [hp47] at hpp
  clear HO4 hR HI hp47
  go_wp2_with fail
  refine (hpp _).mono ?_
  rintro e w3 ⟨rfl, rfl⟩
  clear hpp
  -- a comment within a line
  cases hA : [47, 42].isPrefixOf (l.drop p)
  case' true =>
    have HO6 := Lib.hid (HO5.out.trans (if_pos hA))
    have hl2 : 2 ≤ (Lx.line (l.drop p)).length := by
      obtain ⟨r, hr⟩ := List.isPrefixOf_iff_prefix.1 hA
      rw [← hr]
      unfold Lx.line
      simp
    rw [hA] at hpa
    have hcm : ∀ (k : Nat) (W : World), k ≤ l.length - p → Calls Tryd.prog 39 #[.string (str l), .int .i64 p, .int .i64 ((p + k : Nat) : Int), .int .i64 7] W (RTold W l p (Lx.rem 7 ((l.drop p).take k))) := fun k W h => by
      have h2 := rcomment_any l p (p + k) 7 W (by omega) (by omega) (by omega)
      rw [show p + k - p = k by omega] at h2
      exact h2
    rw [hdl] at hll
    have hlr : (l.take (p + (Lx.line (l.drop p)).length)).drop p = Lx.line (l.drop p) := by
      rw [List.drop_take, show p + (Lx.line (l.drop p)).length - p = (Lx.line (l.drop p)).length by omega, hlt _ (Nat.le_refl _), List.take_length]
    have hisj : ∀ (j : Nat) (W : World), j + 2 ≤ (Lx.line (l.drop p)).length → Calls Tryd.prog 37 #[.string (str (l.take (p + (Lx.line (l.drop p)).length))), .int .i64 ((p + 2 + j : Nat) : Int), .string ⟨#[42, 47]⟩] W fun e w' => e = .returned (.bool (Lib.occAt ((Lx.line (l.drop p)).drop 2) [42, 47] j)) ∧ W = w' := fun j W h => by
      have h2 := ris_any (l.take (p + (Lx.line (l.drop p)).length)) (p + 2 + j) [42, 47] W (by rw [List.length_take]; omega) (by rw [List.length_take]; simp; omega)
      rw [show (l.take (p + (Lx.line (l.drop p)).length)).drop (p + 2 + j) = ((Lx.line (l.drop p)).drop 2).drop j by
        conv => rhs; rw [← hlr]
        rw [List.drop_drop, List.drop_drop, Nat.add_assoc]] at h2
      exact h2
    have hst : ∃ st : Nat, st = p + (Lx.line (l.drop p)).length := ⟨_, rfl⟩
    obtain ⟨st, hst⟩ := hst
    rw [← hst] at hisj hend
    have hsh : Lx.shut (l.drop p) = Lib.index ((Lx.line (l.drop p)).drop 2) [42, 47] := rfl
    clear hA HO5 hlr his
    have HLT := Lib.hid hlt
    have HST := Lib.hid hst
    have HSH := Lib.hid hsh
    clear hlt hst hsh
    generalize Lx.line (l.drop p) = ln at *
    generalize Lx.shut (l.drop p) = sh at *
    have g0 : 0 ≤ (st : Int) ∧ (st : Int) ≤ l.length := by have := HST.out; omega
    have g1 : IntKind.i64.wrap ((p : Int) + 2) = (p : Int) + 2 := IntWalk.i64_in _ (by omega)
    go_wp2_with fail
    refine (hpa _).mono ?_
    rintro e w3 ⟨rfl, rfl⟩
    clear hpa
    go_wp2_with fail
    refine (hend _).mono ?_
    rintro e w3 ⟨rfl, rfl⟩
    clear hend
    go_wp2_with fail
    go_loopg [12] (ln.length) (fun g iv wr => ∃ j : Nat, g = ln.length - j ∧ iv = .int .i64 ((p + 2 + j : Nat) : Int) ∧ j + 2 ≤ ln.length ∧ Hid (Lib.NoOcc (ln.drop 2) [42, 47] j) ∧ wr = later (w.alloc (.cells #[.slice none 0 0, .int .i64 0, .int .i64 0] 28)) dn #[])
    case atStart => exact ⟨0, rfl, by simp, hl2, Lib.NoOcc.zero _ _, rfl⟩
    case round =>
      obtain ⟨j, rfl, rfl, hj, HJ, rfl⟩ := hrel
      obtain ⟨i, hi⟩ : ∃ i : Nat, i = p + 2 + j := ⟨_, rfl⟩
      have hisj2 := hisj j
      rw [← hi] at hisj2 ⊢
      have HII := Lib.hid hi
      clear hisj hi
      have hw1 : IntKind.i64.wrap ((i : Int) + 1) = (i : Int) + 1 := IntWalk.i64_in _ (by have := HII.out; omega)
      have hw2 : IntKind.i64.wrap ((i : Int) + 2) = (i : Int) + 2 := IntWalk.i64_in _ (by have := HII.out; omega)
      by_cases hlt : j + 2 < ln.length
      · have d1 : (i : Int) < st := by have := HII.out; have := HST.out; omega
        cases ho : Lib.occAt (ln.drop 2) [42, 47] j
        · have HJ2 : Hid (Lib.NoOcc (ln.drop 2) [42, 47] (j + 1)) := by
            intro m hm
            by_cases h : m < j
            · exact HJ.out m h
            · have : m = j := by omega
              rw [this]; exact ho
          rw [ho] at hisj2
          clear HJ ho hcm HLT
          go_wp2_with fail
          refine (hisj2 _ (by omega)).mono ?_
          rintro e w3 ⟨rfl, rfl⟩
          go_wp2_with fail
          go_roundg (ln.length - (j + 1))
          case measure => omega
          case rel => exact ⟨j + 1, rfl, by rw [HII.out]; simp; omega, by omega, HJ2, rfl⟩
        · have hshut : sh = j := by
            rw [HSH.out]
            exact Lib.index_hit HJ.out (by rw [List.length_drop]; omega) ho
          have hj4 : j + 4 ≤ ln.length := by
            have := (List.isPrefixOf_iff_prefix.1 ho).length_le
            rw [List.length_drop, List.length_drop] at this
            simp at this
            omega
          have HA := Lib.hid (HO6.out.trans (if_neg (by rw [hshut]; omega)))
          have e3 : sh.toNat + 4 = j + 4 := by rw [hshut]; omega
          rw [e3, ← HLT.out _ hj4] at HA
          have hcm2 : ∀ W, Calls Tryd.prog 39 #[.string (str l), .int .i64 p, .int .i64 ((i : Int) + 2), .int .i64 7] W (RTold W l p (Lx.rem 7 ((l.drop p).take (j + 4)))) := fun W => by
            have h2 := hcm (j + 4) W (by omega)
            rw [show ((p + (j + 4) : Nat) : Int) = (i : Int) + 2 by rw [HII.out]; omega] at h2
            exact h2
          rw [ho] at hisj2
          clear HJ ho hcm HLT hshut e3 HO6 HSH
          go_wp2_with fail
          refine (hisj2 _ (by omega)).mono ?_
          rintro e w3 ⟨rfl, rfl⟩
          go_wp2_with fail
          refine (hcm2 _).mono ?_
          rintro e w2 hR
          rcases hR with ⟨g, _, h0, hb, hg, hB⟩ | ⟨_, h0, hB⟩
          · obtain ⟨d2, o2, rfl⟩ := later_of_below hB
            rw [later_zl] at hb ⊢
            clear hB
            have HH := Lib.hid (And.intro hb hg)
            have H0 := Lib.hid h0
            clear hb hg h0
            go_wp2_with fail
            go_returns
            rw [HA.out]
            exact RTold.tok g _ (by first | exact H0.out | rfl) (blk_later HH.out.1 HH.out.2 (by simp)) (by have := HH.out.2; simp at this; omega) (by (repeat' (first | (with_reducible exact Below.refl _ _) | (with_reducible assumption) | (with_reducible refine below_later' ?_ ?_ _ _) | (with_reducible refine Below.alloc ?_ ?_ _) | (with_reducible refine Below.setCell ?_ ?_ _) | (with_reducible refine Below.drew ?_) | (with_reducible refine below_drewN ?_ _) | (with_reducible exact Nat.le_refl _) | omega | (simp; done) | (simp; omega))))
          · obtain ⟨d2, o2, rfl⟩ := later_of_below hB
            rw [later_zl]
            have H0 := Lib.hid h0
            clear hB h0
            go_wp2_with fail
            go_returns
            rw [HA.out]
            exact RTold.bad _ H0.out (by (repeat' (first | (with_reducible exact Below.refl _ _) | (with_reducible assumption) | (with_reducible refine below_later' ?_ ?_ _ _) | (with_reducible refine Below.alloc ?_ ?_ _) | (with_reducible refine Below.setCell ?_ ?_ _) | (with_reducible refine Below.drew ?_) | (with_reducible refine below_drewN ?_ _) | (with_reducible exact Nat.le_refl _) | omega | (simp; done) | (simp; omega))))
      · have d1 : ¬(i : Int) < st := by have := HII.out; have := HST.out; omega
        have hshut : sh = -1 := by
          rw [HSH.out]
          exact Lib.index_past (by simp) HJ.out (by rw [List.length_drop]; simp; omega)
        have HA := Lib.hid (HO6.out.trans (if_pos (by rw [hshut]; omega)))
        clear HJ hcm HLT hshut HO6 HSH hisj2
        go_wp2_with fail
        go_returns
        rw [HA.out]
        exact RTold.bad _ (by simp) (by (repeat' (first | (with_reducible exact Below.refl _ _) | (with_reducible assumption) | (with_reducible refine below_later' ?_ ?_ _ _) | (with_reducible refine Below.alloc ?_ ?_ _) | (with_reducible refine Below.setCell ?_ ?_ _) | (with_reducible refine Below.drew ?_) | (with_reducible refine below_drewN ?_ _) | (with_reducible exact Nat.le_refl _) | omega | (simp; done) | (simp; omega))))
  have HO6 := Lib.hid (HO5.out.trans (if_neg (by rw [hA]; simp)))
  rw [hA] at hpa
  clear HO5 hA
  go_wp2_with fail
  refine (hpa _).mono ?_
  rintro e w3 ⟨rfl, rfl⟩
  clear hpa hend hll hlt
  -- signs
  have HN : Hid (Lx.sign (l.drop p) = ((((Lx.twos ++ Lx.ones).drop 0).find? (·.isPrefixOf (l.drop p))).map List.length).getD 0) := sign_find (l.drop p)
  go_wp2_with fail
  have hck : ∀ k : Nat, k < 6 → ((later (w.alloc (.cells #[.slice none 0 0, .int .i64 0, .int .i64 0] 28)) dn #[]).alloc (.cells #[.string (str [61, 61]), .string (str [33, 61]), .string (str [60, 61]), .string (str [62, 61]), .string (str [38, 38]), .string (str [124, 124])] 9)).cell? ⟨w.heap.size + 1, k, none⟩ = some (.string (str (Lx.twos.getD k []))) := fun k hk => by
    rw [(Blk.newAt _ _ _ (by simp)).cell k]
    match k, hk with
    | 0, _ => rfl
    | 1, _ => rfl
    | 2, _ => rfl
    | 3, _ => rfl
    | 4, _ => rfl
    | 5, _ => rfl
    | k + 6, h => exact absurd h (by omega)
  generalize hWW : ((later (w.alloc (.cells #[.slice none 0 0, .int .i64 0, .int .i64 0] 28)) dn #[]).alloc (.cells #[.string (str [61, 61]), .string (str [33, 61]), .string (str [60, 61]), .string (str [62, 61]), .string (str [38, 38]), .string (str [124, 124])] 9)) = WW at hck
  have HWW := Lib.hid hWW
  clear hWW
  go_loopg [167] 6 (fun g kv wr => ∃ k : Nat, g = 6 - k ∧ kv = .int .i64 k ∧ k ≤ 6 ∧ Hid (Lx.sign (l.drop p) = ((((Lx.twos ++ Lx.ones).drop k).find? (·.isPrefixOf (l.drop p))).map List.length).getD 0) ∧ wr = WW)
  case atStart => exact ⟨0, rfl, rfl, by omega, HN, HWW.out⟩
  case round =>
    obtain ⟨k, rfl, rfl, hk, HK, rfl⟩ := hrel
    clear HN
    by_cases hlt : k < 6
    · have d1 : (k : Int) < 6 := by omega
      have d2 : 0 ≤ (k : Int) ∧ (k : Int) < 6 := by omega
      have hw1 : IntKind.i64.wrap ((k : Int) + 1) = (k : Int) + 1 := IntWalk.i64_in _ (by omega)
      have hckk := hck k hlt
      have hdr : ((Lx.twos ++ Lx.ones)).drop k = Lx.twos.getD k [] :: ((Lx.twos ++ Lx.ones)).drop (k + 1) := by
        have : ∀ j : Fin 6, ((Lx.twos ++ Lx.ones)).drop j.val = Lx.twos.getD j.val [] :: ((Lx.twos ++ Lx.ones)).drop (j.val + 1) := by decide
        exact this ⟨k, hlt⟩
      have hvl : (Lx.twos.getD k []).length = 2 := by
        have : ∀ j : Fin 6, (Lx.twos.getD j.val []).length = 2 := by decide
        exact this ⟨k, hlt⟩
      have hK2 := HK.out
      rw [hdr, List.find?_cons] at hK2
      have hpk := fun W => his (Lx.twos.getD k []) W (by rw [hvl]; decide)
      clear hck HK hdr
      generalize Lx.twos.getD k [] = v at *
      cases hp : v.isPrefixOf (l.drop p)
      · rw [hp] at hK2 hpk
        have HK3 := Lib.hid hK2
        have HVL := Lib.hid hvl
        clear hK2 hp hvl his
        go_wp2_with fail
        refine (hpk _).mono ?_
        rintro e w3 ⟨rfl, rfl⟩
        go_wp2_with fail
        go_roundg (6 - (k + 1))
        case measure => omega
        case rel => exact ⟨k + 1, rfl, by simp, hlt, HK3.out, rfl⟩
      · rw [hp] at hK2 hpk
        have hsn : Lx.sign (l.drop p) = 2 := by rw [← hvl]; exact hK2
        have hpl : p + 2 ≤ l.length := by
          have h2 := (List.isPrefixOf_iff_prefix.1 hp).length_le
          rw [List.length_drop] at h2
          omega
        have HA := Lib.hid (HO6.out.trans (if_neg (by rw [hsn]; omega)))
        rw [hsn] at HA
        have htk : ∀ W, Calls Tryd.prog 32 #[.string (str l), .int .i64 p, .int .i64 4, .int .i64 2] W (RTold W l p ⟨4, 2, 0, 0⟩) := fun W => rtoken_any l p 4 2 W hpl (by omega)
        clear hK2 hp hsn HO6 hvl his hpl
        go_wp2_with fail
        refine (hpk _).mono ?_
        rintro e w3 ⟨rfl, rfl⟩
        clear hpk hckk
        obtain rfl := HWW.out
        clear HWW
        go_wp2_with fail
        refine (htk _).mono ?_
        rintro e w2 hR
        rcases hR with ⟨g, _, h0, hb, hg, hB⟩ | ⟨_, h0, hB⟩
        · obtain ⟨d2, o2, rfl⟩ := later_of_below hB
          clear hB
          have HH := Lib.hid (And.intro hb hg)
          have H0 := Lib.hid h0
          clear hb hg h0
          go_wp2_with fail
          go_returns
          rw [HA.out]
          exact RTold.tok g _ (by first | exact H0.out | rfl) (blk_later HH.out.1 HH.out.2 (by simp)) (by have := HH.out.2; simp at this; omega) (by (repeat' (first | (with_reducible exact Below.refl _ _) | (with_reducible assumption) | (with_reducible refine below_later' ?_ ?_ _ _) | (with_reducible refine Below.alloc ?_ ?_ _) | (with_reducible refine Below.setCell ?_ ?_ _) | (with_reducible refine Below.drew ?_) | (with_reducible refine below_drewN ?_ _) | (with_reducible exact Nat.le_refl _) | omega | (simp; done) | (simp; omega))))
        · exact absurd rfl h0
    · obtain rfl : k = 6 := by omega
      clear hck
      obtain rfl := HWW.out
      clear HWW
      have HN : Hid (Lx.sign (l.drop p) = (((Lx.ones.drop 0).find? (·.isPrefixOf (l.drop p))).map List.length).getD 0) := HK.out
      clear HK
      go_wp2_with fail
      have hck : ∀ k : Nat, k < 19 → (((later (w.alloc (.cells #[.slice none 0 0, .int .i64 0, .int .i64 0] 28)) dn #[]).alloc (.cells #[.string (str [61, 61]), .string (str [33, 61]), .string (str [60, 61]), .string (str [62, 61]), .string (str [38, 38]), .string (str [124, 124])] 9)).alloc (.cells #[.string (str [61]), .string (str [60]), .string (str [62]), .string (str [43]), .string (str [45]), .string (str [42]), .string (str [47]), .string (str [37]), .string (str [33]), .string (str [63]), .string (str [58]), .string (str [44]), .string (str [46]), .string (str [40]), .string (str [41]), .string (str [91]), .string (str [93]), .string (str [123]), .string (str [125])] 9)).cell? ⟨w.heap.size + 1 + 1, k, none⟩ = some (.string (str (Lx.ones.getD k []))) := fun k hk => by
        rw [(Blk.newAt _ _ _ (by simp)).cell k]
        match k, hk with
        | 0, _ => rfl
        | 1, _ => rfl
        | 2, _ => rfl
        | 3, _ => rfl
        | 4, _ => rfl
        | 5, _ => rfl
        | 6, _ => rfl
        | 7, _ => rfl
        | 8, _ => rfl
        | 9, _ => rfl
        | 10, _ => rfl
        | 11, _ => rfl
        | 12, _ => rfl
        | 13, _ => rfl
        | 14, _ => rfl
        | 15, _ => rfl
        | 16, _ => rfl
        | 17, _ => rfl
        | 18, _ => rfl
        | k + 19, h => exact absurd h (by omega)
      generalize hWW : (((later (w.alloc (.cells #[.slice none 0 0, .int .i64 0, .int .i64 0] 28)) dn #[]).alloc (.cells #[.string (str [61, 61]), .string (str [33, 61]), .string (str [60, 61]), .string (str [62, 61]), .string (str [38, 38]), .string (str [124, 124])] 9)).alloc (.cells #[.string (str [61]), .string (str [60]), .string (str [62]), .string (str [43]), .string (str [45]), .string (str [42]), .string (str [47]), .string (str [37]), .string (str [33]), .string (str [63]), .string (str [58]), .string (str [44]), .string (str [46]), .string (str [40]), .string (str [41]), .string (str [91]), .string (str [93]), .string (str [123]), .string (str [125])] 9)) = WW at hck
      have HWW := Lib.hid hWW
      clear hWW
      go_loopg [181] 19 (fun g kv wr => ∃ k : Nat, g = 19 - k ∧ kv = .int .i64 k ∧ k ≤ 19 ∧ Hid (Lx.sign (l.drop p) = (((Lx.ones.drop k).find? (·.isPrefixOf (l.drop p))).map List.length).getD 0) ∧ wr = WW)
      case atStart => exact ⟨0, rfl, rfl, by omega, HN, HWW.out⟩
      case round =>
        obtain ⟨k, rfl, rfl, hk, HK, rfl⟩ := hrel
        clear HN
        by_cases hlt : k < 19
        · have d1 : (k : Int) < 19 := by omega
          have d2 : 0 ≤ (k : Int) ∧ (k : Int) < 19 := by omega
          have hw1 : IntKind.i64.wrap ((k : Int) + 1) = (k : Int) + 1 := IntWalk.i64_in _ (by omega)
          have hckk := hck k hlt
          have hdr : (Lx.ones).drop k = Lx.ones.getD k [] :: (Lx.ones).drop (k + 1) := by
            have : ∀ j : Fin 19, (Lx.ones).drop j.val = Lx.ones.getD j.val [] :: (Lx.ones).drop (j.val + 1) := by decide
            exact this ⟨k, hlt⟩
          have hvl : (Lx.ones.getD k []).length = 1 := by
            have : ∀ j : Fin 19, (Lx.ones.getD j.val []).length = 1 := by decide
            exact this ⟨k, hlt⟩
          have hK2 := HK.out
          rw [hdr, List.find?_cons] at hK2
          have hpk := fun W => his (Lx.ones.getD k []) W (by rw [hvl]; decide)
          clear hck HK hdr
          generalize Lx.ones.getD k [] = v at *
          cases hp : v.isPrefixOf (l.drop p)
          · rw [hp] at hK2 hpk
            have HK3 := Lib.hid hK2
            have HVL := Lib.hid hvl
            clear hK2 hp hvl his
            go_wp2_with fail
            refine (hpk _).mono ?_
            rintro e w3 ⟨rfl, rfl⟩
            go_wp2_with fail
            go_roundg (19 - (k + 1))
            case measure => omega
            case rel => exact ⟨k + 1, rfl, by simp, hlt, HK3.out, rfl⟩
          · rw [hp] at hK2 hpk
            have hsn : Lx.sign (l.drop p) = 1 := by rw [← hvl]; exact hK2
            have hpl : p + 1 ≤ l.length := by
              have h2 := (List.isPrefixOf_iff_prefix.1 hp).length_le
              rw [List.length_drop] at h2
              omega
            have HA := Lib.hid (HO6.out.trans (if_neg (by rw [hsn]; omega)))
            rw [hsn] at HA
            have htk : ∀ W, Calls Tryd.prog 32 #[.string (str l), .int .i64 p, .int .i64 4, .int .i64 1] W (RTold W l p ⟨4, 1, 0, 0⟩) := fun W => rtoken_any l p 4 1 W hpl (by omega)
            clear hK2 hp hsn HO6 hvl his hpl
            go_wp2_with fail
            refine (hpk _).mono ?_
            rintro e w3 ⟨rfl, rfl⟩
            clear hpk hckk
            obtain rfl := HWW.out
            clear HWW
            go_wp2_with fail
            refine (htk _).mono ?_
            rintro e w2 hR
            rcases hR with ⟨g, _, h0, hb, hg, hB⟩ | ⟨_, h0, hB⟩
            · obtain ⟨d2, o2, rfl⟩ := later_of_below hB
              clear hB
              have HH := Lib.hid (And.intro hb hg)
              have H0 := Lib.hid h0
              clear hb hg h0
              go_wp2_with fail
              go_returns
              rw [HA.out]
              exact RTold.tok g _ (by first | exact H0.out | rfl) (blk_later HH.out.1 HH.out.2 (by simp)) (by have := HH.out.2; simp at this; omega) (by (repeat' (first | (with_reducible exact Below.refl _ _) | (with_reducible assumption) | (with_reducible refine below_later' ?_ ?_ _ _) | (with_reducible refine Below.alloc ?_ ?_ _) | (with_reducible refine Below.setCell ?_ ?_ _) | (with_reducible refine Below.drew ?_) | (with_reducible refine below_drewN ?_ _) | (with_reducible exact Nat.le_refl _) | omega | (simp; done) | (simp; omega))))
            · exact absurd rfl h0
        · obtain rfl : k = 19 := by omega
          clear hck
          obtain rfl := HWW.out
          clear HWW
          have hsn : Lx.sign (l.drop p) = 0 := HK.out
          have HA := Lib.hid (HO6.out.trans (if_pos hsn))
          clear HK HO6 hsn his
          go_wp2_with fail
          go_returns
          rw [HA.out]
          exact RTold.bad _ (by simp) (by (repeat' (first | (with_reducible exact Below.refl _ _) | (with_reducible assumption) | (with_reducible refine below_later' ?_ ?_ _ _) | (with_reducible refine Below.alloc ?_ ?_ _) | (with_reducible refine Below.setCell ?_ ?_ _) | (with_reducible refine Below.drew ?_) | (with_reducible refine below_drewN ?_ _) | (with_reducible exact Nat.le_refl _) | omega | (simp; done) | (simp; omega))))
end Go.Proofs.YthabfgpncebigaaDoor

/- tabulariumref11: Parse. -/
namespace Go.Proofs.YthabfgpncebigaaDoor
open Go.RowKit

/-- What the document's Parse leaves: all tokens up to where it goes wrong. -/
def RPost (w : World) (x : List Lx.Tok × Int × Nat) (e : Ending) (w' : World) : Prop :=
  ∃ A n c, e = .returned (.agg #[.slice A n c, .int .i64 x.2.1, .int .i64 x.2.2]) ∧ w'.ownsRow w.heap.size 33 3 (.slice A n c) n (tval x.1) ∧ Below w.heap.size w w'
theorem own_lt {w : World} {base e size n : Nat} {v : Value} {xs : List Value} (h : w.ownsRow base e size v n xs) {g : Nat} (hg : v.ownBlock = some g) : g < w.heap.size := by
  rcases h.2 with ⟨rfl, _⟩ | ⟨g2, cap, cur, rfl, _, hgb, _⟩
  · simp [Value.ownBlock] at hg
  · obtain rfl : g2 = g := by simpa [Value.ownBlock] using hg
    exact (Array.getElem?_eq_some_iff.1 hgb).1

theorem info_rtold : (Tryd.prog.info? 28).map (·.size) = some 3 := by kernel_rfl
theorem own_set {w : World} {base n g i : Nat} {v u : Value} {xs : List Value} (h : w.ownsRow base 33 3 v n xs) (hb : some g ≠ v.ownBlock) : (w.setCell ⟨g, i, none⟩ u).ownsRow base 33 3 v n xs := by
  refine ⟨h.1, ?_⟩
  rcases h.2 with h0 | ⟨g2, cap, cur, rfl, hbs, hgb, rest⟩
  · exact .inl h0
  · refine .inr ⟨g2, cap, cur, rfl, hbs, ?_, rest⟩
    rw [Below.heap_setCell _ _ _ _ (fun e => hb (by rw [show g = g2 from e.symm]; rfl))]
    exact hgb
theorem own_set3 {w : World} {base n g : Nat} {v u0 u1 u2 : Value} {cs : Array Value} {xs : List Value} (h : w.ownsRow base 33 3 v n xs) (hb : Blk g 28 cs w) :
    (((w.setCell ⟨g, 0, none⟩ u0).setCell ⟨g, 1, none⟩ u1).setCell ⟨g, 2, none⟩ u2).ownsRow base 33 3 v n xs :=
  own_set (own_set (own_set h (hb.not_row (by decide) h)) (hb.not_row (by decide) h)) (hb.not_row (by decide) h)

set_option maxHeartbeats 4000000 in
set_option maxRecDepth 100000 in
theorem rparse11_any (l : List UInt8) (w : World) (hl : l.length ≤ 1000000) :
    Calls Tryd.prog 10 #[.string (str l)] w (RPost w (Lx.walk 0 l)) := by
  obtain ⟨ans, hans⟩ : ∃ ans, ans = Lx.walk 0 l := ⟨_, rfl⟩
  rw [← hans]
  have HA : Hid (ans.1 = [] ++ (Lx.walk 0 (l.drop 0)).1 ∧ ans.2 = (Lx.walk 0 (l.drop 0)).2) := ⟨by rw [hans]; rfl, by rw [hans]; rfl⟩
  have hbk0 := Blk.new w 28 #[.slice none 0 0, .int .i64 0, .int .i64 0]
  have hB0 := (Below.refl w.heap.size w).alloc (Nat.le_refl _) (.cells #[.slice none 0 0, .int .i64 0, .int .i64 0] 28)
  have hrb := rblank_any
  clear hans
  go_enter Tryd.func10, Tryd.ntmps10
  go_wp2
  generalize w.alloc (.cells #[.slice none 0 0, .int .i64 0, .int .i64 0] 28) = W0 at *
  go_loopg [3, 4] (l.length) (fun g ov pv wr => ∃ (p : Nat) (pre : List Lx.Tok) (A : Option Addr) (c : Nat), g = l.length - p ∧ ov = .slice A pre.length c ∧ pv = .int .i64 p ∧ p ≤ l.length ∧ pre.length ≤ p ∧
    Hid (ans.1 = pre ++ (Lx.walk p (l.drop p)).1 ∧ ans.2 = (Lx.walk p (l.drop p)).2) ∧ wr.ownsRow w.heap.size 33 3 (.slice A pre.length c) pre.length (tval pre) ∧ Below w.heap.size w wr ∧ Blk w.heap.size 28 #[.slice none 0 0, .int .i64 0, .int .i64 0] wr)
  case atStart => exact ⟨0, [], none, 0, rfl, rfl, rfl, Nat.zero_le _, Nat.le_refl _, HA, World.ownsRow_nil _ _ _ _, hB0, hbk0⟩
  case round =>
    obtain ⟨p, pre, A, c, rfl, rfl, rfl, hp, hpl, HN, hrow, hBW, hbk⟩ := hrel
    clear HA hB0 hbk0
    by_cases hlt : p < l.length
    · have d1 : (p : Int) < l.length := by omega
      have d2 : 0 ≤ (p : Int) ∧ (p : Int) < l.length := by omega
      have hnx : nth l p = (l[p].toNat : Int) := nth_eq hlt
      have hdr : l.drop p = l[p] :: l.drop (p + 1) := List.drop_eq_getElem_cons hlt
      obtain ⟨b, hb⟩ : ∃ b, b = l[p] := ⟨_, rfl⟩
      rw [← hb] at hnx hdr
      have hrb2 := hrb b
      clear hrb hb
      cases hbl : Lx.blank b
      · rw [hbl] at hrb2
        have hone := rone_any l p wr hlt hl
        have hoi := one_i (l.drop p)
        have hlen := fun h => Lx.one_len (l := l.drop p) h
        have hN2 := HN.out
        rw [hdr] at hN2
        have hbad := fun h => Lx.walk_bad (p := p) (r := l.drop (p + 1)) hbl h
        have htok := fun h => Lx.walk_tok (p := p) (r := l.drop (p + 1)) hbl h
        rw [← hdr] at hN2 hbad htok
        rw [List.length_drop] at hoi hlen
        generalize (b.toNat : Int) = x at *
        have HD := Lib.hid (And.intro hN2 (And.intro hbad htok))
        clear HN hdr hN2 hbad htok hbl
        generalize Lx.one (l.drop p) = q at *
        obtain ⟨qk, qn, qi, qe⟩ := q
        simp only at hoi hlen
        go_wp2_with fail
        refine (hrb2 _).mono ?_
        rintro e w2 ⟨rfl, rfl⟩
        go_wp2_with fail
        refine hone.mono ?_
        rintro e w2 hR
        clear hone hrb2
        rcases hR with ⟨g, _, h0, hb, hg, hB⟩ | ⟨_, h0, hB⟩
        · have hqe : qe = 0 := h0
          subst hqe
          have hl2 := hlen rfl
          have HN2 : Hid (ans.1 = (pre ++ [⟨qk, (l.drop p).take qn, p⟩]) ++ (Lx.walk (p + qn) (l.drop (p + qn))).1 ∧ ans.2 = (Lx.walk (p + qn) (l.drop (p + qn))).2) := by
            have h1 := HD.out
            have h2 := h1.2.2 rfl
            rw [h2, List.drop_drop] at h1
            exact ⟨by rw [h1.1.1]; simp, h1.1.2⟩
          have htl : ((l.drop p).take qn).length = qn := by rw [List.length_take, List.length_drop]; omega
          clear HD h0 hlen hoi
          have hrow2 := own_keep hrow hB
          have hbk2 := hbk.below hB hbk.lt
          have hB2 := hBW.trans (hB.mono hBW.size)
          have hgrow : ∀ g2, (Value.slice A pre.length c).ownBlock = some g2 → g2 ≠ g := fun g2 h => by have := own_lt hrow h; omega
          obtain ⟨t, ht⟩ : ∃ t, t = (l.drop p).take qn := ⟨_, rfl⟩
          rw [← ht] at hb HN2 htl
          unfold tokC at hb
          simp only at hb
          have hgl := hb.lt
          have HT := Lib.hid ht
          clear ht
          have k0 : w2.cell? ⟨g, 0, none⟩ = some (.int .i64 qk) := hb.cell 0
          have k1 : w2.cell? ⟨g, 1, none⟩ = some (.string (str t)) := hb.cell 1
          have k2 : w2.cell? ⟨g, 2, none⟩ = some (.int .i64 p) := hb.cell 2
          have hw1 : IntKind.i64.wrap ((p : Int) + t.length) = (p : Int) + t.length := IntWalk.i64_in _ (by omega)
          have hb5 := Blk.new w2 28 #[.slice (some ⟨g, 0, none⟩) 1 1, .int .i64 0, .int .i64 0]
          have hgne : some g ≠ (Value.slice A pre.length c).ownBlock := fun h => hgrow g h.symm rfl
          have HX := Lib.hid (And.intro hgrow hgne)
          have HL := Lib.hid htl
          clear hgrow hgne htl
          go_wp2_with (first
            | (at_builtin
               refine wpList_app_tok rfl _ _ rfl w.heap.size pre [⟨qk, t, p⟩] A pre.length c ((hrow2.alloc _).alloc _) rfl _ 1 1 (rd_tok_at _ ⟨qk, t, p⟩ _ (by simp)) rfl (by omega) (by have := hB2.size; simp; omega) _ rfl _ rfl ?_
               intro A4 c4 w4 hown4 hg4 hat4
               have m5 := (hb5.alloc (.cells (tokC ⟨qk, t, p⟩) 33)).grown hg4 (hb5.not_row (by decide) (hrow2.alloc _))
               have mg := ((hb.alloc (.cells #[.slice (some ⟨g, 0, none⟩) 1 1, .int .i64 0, .int .i64 0] 28)).alloc (.cells (tokC ⟨qk, t, p⟩) 33)).grown hg4 HX.out.2
               have mk := ((hbk2.alloc (.cells #[.slice (some ⟨g, 0, none⟩) 1 1, .int .i64 0, .int .i64 0] 28)).alloc (.cells (tokC ⟨qk, t, p⟩) 33)).grown hg4 (hbk2.not_row (by decide) hrow2)
               have e5 : w4.cell? ⟨w2.heap.size, 0, none⟩ = some (.slice (some ⟨g, 0, none⟩) 1 1) := m5.cell 0
               have eg : w4.cell? ⟨g, 1, none⟩ = some (.string (str t)) := mg.cell 1
               have hB4 : Below w.heap.size w w4 := below_append ((hB2.alloc (by have := hB2.size; omega) (.cells #[.slice (some ⟨g, 0, none⟩) 1 1, .int .i64 0, .int .i64 0] 28)).alloc (by have := hB2.size; simp; omega) (.cells (tokC ⟨qk, t, p⟩) 33)) ((hrow2.alloc _).alloc _) hg4 (Nat.le_refl _) (by have := hB2.size; simp; omega)))
          go_roundg (l.length - (p + qn))
          case measure => omega
          case rel => exact ⟨p + qn, pre ++ [⟨qk, t, p⟩], A4, c4, rfl, by simp, by rw [HL.out]; simp, by omega, by simp; omega, HN2, by simpa using hown4, hB4, mk⟩
        · have hqe : ¬qe = 0 := h0
          have hqb : ((qe : Int) != 0) = true := by simp; omega
          have hfin : ans = (pre, ((p + qi : Nat) : Int), qe) := by
            have h1 := HD.out
            have h2 := h1.2.1 hqe
            rw [h2] at h1
            obtain ⟨a1, a2⟩ := ans
            simp only [List.append_nil] at h1
            rw [h1.1.1, h1.1.2]
          have HF := Lib.hid hfin
          clear hfin HD hlen hoi
          have hrow2 := own_keep hrow hB
          have hbk2 := hbk.below hB hbk.lt
          have hB2 := hBW.trans (hB.mono hBW.size)
          have hrow3 := hrow2.alloc (.cells #[.slice none 0 0, .int .i64 ((p + qi : Nat) : Int), .int .i64 qe] 28)
          have hbk3 := hbk2.alloc (.cells #[.slice none 0 0, .int .i64 ((p + qi : Nat) : Int), .int .i64 qe] 28)
          have hB3 := hB2.alloc (by have := hB2.size; omega) (.cells #[.slice none 0 0, .int .i64 ((p + qi : Nat) : Int), .int .i64 qe] 28)
          have c0 : w2.cell? ⟨w.heap.size, 0, none⟩ = some (.slice none 0 0) := hbk2.cell 0
          have c1 : w2.cell? ⟨w.heap.size, 1, none⟩ = some (.int .i64 0) := hbk2.cell 1
          have c2 : w2.cell? ⟨w.heap.size, 2, none⟩ = some (.int .i64 0) := hbk2.cell 2
          have f0 := hbk2.frozen 0
          have f1 := hbk2.frozen 1
          have f2 := hbk2.frozen 2
          have hlt2 := hbk2.lt
          go_wp2_with fail
          have hb9 : Blk w.heap.size 28 #[.slice A pre.length c, .int .i64 ((p : Int) + qi), .int .i64 qe] _ := (((hbk2.set 0 (.slice A pre.length c)).set 1 (.int .i64 ((p : Int) + qi))).set 2 (.int .i64 qe)).alloc (.cells #[.slice none 0 0, .int .i64 ((p : Int) + qi), .int .i64 qe] 28)
          refine bodyPost_ret (results_cell_row rfl _ _ w.heap.size 28 _ (0, 0) _ rfl hb9 Tryd.underlying28 rfl info_rtold) rfl ?_
          rw [HF.out]
          refine ⟨A, pre.length, c, by rw [Int.natCast_add], ?_, ((((hB2.setCell (p := ⟨w.heap.size, 0, none⟩) (Nat.le_refl _) _).setCell (p := ⟨w.heap.size, 1, none⟩) (Nat.le_refl _) _).setCell (p := ⟨w.heap.size, 2, none⟩) (Nat.le_refl _) _)).alloc (by simp; omega) _⟩
          exact (own_set3 hrow2 hbk2).alloc _
      · rw [hbl] at hrb2
        have HN2 : Hid (ans.1 = pre ++ (Lx.walk (p + 1) (l.drop (p + 1))).1 ∧ ans.2 = (Lx.walk (p + 1) (l.drop (p + 1))).2) := by
          have h := HN.out
          rw [hdr, Lx.walk_blank hbl] at h
          exact h
        have hw1 : IntKind.i64.wrap ((p : Int) + 1) = (p : Int) + 1 := IntWalk.i64_in _ (by omega)
        clear HN hdr
        generalize (b.toNat : Int) = x at *
        go_wp2_with fail
        refine (hrb2 _).mono ?_
        rintro e w2 ⟨rfl, rfl⟩
        go_wp2_with fail
        go_roundg (l.length - (p + 1))
        case measure => omega
        case rel => exact ⟨p + 1, pre, A, c, rfl, rfl, by simp, hlt, by omega, HN2, hrow, hBW, hbk⟩
    · obtain rfl : p = l.length := by omega
      have hfin : ans = (pre, -1, 0) := by
        have h := HN.out
        rw [List.drop_eq_nil_of_le (Nat.le_refl _), Lx.walk_nil] at h
        obtain ⟨a1, a2⟩ := ans
        simp only [List.append_nil] at h
        rw [h.1, h.2]
      have HF := Lib.hid hfin
      have d1 : ¬(l.length : Int) < l.length := by omega
      have c0 : wr.cell? ⟨w.heap.size, 0, none⟩ = some (.slice none 0 0) := hbk.cell 0
      have c1 : wr.cell? ⟨w.heap.size, 1, none⟩ = some (.int .i64 0) := hbk.cell 1
      have c2 : wr.cell? ⟨w.heap.size, 2, none⟩ = some (.int .i64 0) := hbk.cell 2
      have f0 := hbk.frozen 0
      have f1 := hbk.frozen 1
      have f2 := hbk.frozen 2
      clear hfin HN hrb
      go_wp2_with fail
      have hb9 : Blk w.heap.size 28 #[.slice A pre.length c, .int .i64 (-1), .int .i64 0] _ := ((hbk.set 0 (.slice A pre.length c)).set 1 (.int .i64 (-1))).set 2 (.int .i64 0)
      refine bodyPost_ret (results_cell_row rfl _ _ w.heap.size 28 _ (0, 0) _ rfl hb9 Tryd.underlying28 rfl info_rtold) rfl ?_
      rw [HF.out]
      refine ⟨A, pre.length, c, rfl, ?_, ((hBW.setCell (p := ⟨w.heap.size, 0, none⟩) (Nat.le_refl _) _).setCell (p := ⟨w.heap.size, 1, none⟩) (Nat.le_refl _) _).setCell (p := ⟨w.heap.size, 2, none⟩) (Nat.le_refl _) _⟩
      exact own_set3 hrow hbk
end Go.Proofs.YthabfgpncebigaaDoor

/- What the rows' list gives: the tables of utf, num, lex, cell by cell; MaxLen holds some number. -/
namespace Go.Proofs.YthabfgpncebigaaDoor
open Go.RowKit

/-- One variable of a list that is met is met by itself. -/
theorem laid_one {P : Program} {w : World} {n : String} {d : DataW Unit} : ∀ {laid : List (String × DataW Unit)} {ps : List MemPlace}, DataW.LaidVars P w laid ps → (n, d) ∈ laid → ∃ ps', DataW.LaidVars P w [(n, d)] ps' ∧ List.Sublist ps' ps
  | [], _, _, h => by cases h
  | (n', d') :: r, ps, h, hm => by
    obtain ⟨g, t, cs, fuel, p, q, h1, h2, h3, h4, h5, rfl⟩ := h
    rcases List.mem_cons.1 hm with e | hm
    · injection e with e1 e2
      subst e1 e2
      exact ⟨_, ⟨g, t, cs, fuel, p, [], h1, h2, h3, h4, rfl, rfl⟩, by rw [List.append_nil]; exact List.sublist_append_left _ _⟩
    · obtain ⟨ps', h6, h7⟩ := laid_one h5 hm
      exact ⟨ps', h6, h7.trans (List.sublist_append_right _ _)⟩
theorem laidMet_one {P : Program} {w : World} {laid : List (String × DataW Unit)} {n : String} {d : DataW Unit} (h : laidMet P laid w) (hm : (n, d) ∈ laid) : laidMet P [(n, d)] w := by
  obtain ⟨ps, h1, h2, h3⟩ := h
  obtain ⟨ps', h4, h5⟩ := laid_one h1 hm
  exact ⟨ps', h4, h2.sublist h5, fun b off hb => h3 b off (h5.subset hb)⟩

/-- The rows of num's table. -/
def nextRows : List (List Int) := [[2, 3, 0, 0, 0, 1], [2, 3, 0, 0, 0, 0], [0, 0, 4, 6, 0, 0], [3, 3, 4, 6, 0, 0], [5, 5, 0, 0, 0, 0], [5, 5, 0, 6, 0, 0], [8, 8, 0, 0, 7, 7], [8, 8, 0, 0, 0, 0], [8, 8, 0, 0, 0, 0]]
set_option maxRecDepth 100000 in
theorem numT_of_laid {W : World} (h : laidMet Tryd.prog [("tabularium/num.next", Rows.laid_tabularium_num_next)] W) : NumT W := by
  obtain ⟨ps, ⟨g', t', cs, fuel, p, q, hg', ht', hvar, hd, _, _⟩, _⟩ := h
  have hg : Tryd.prog.globalNamed "tabularium/num.next" = some 1 := by kernel_rfl
  have ht : (Tryd.prog.globals[(1 : Nat)]?).map (·.type) = some 85 := by kernel_rfl
  obtain rfl := Option.some.inj (hg.symm.trans hg')
  obtain rfl := Option.some.inj (ht.symm.trans ht')
  obtain ⟨xs, m, rfl, hx, hl, hxl, he⟩ := DataW.trod_array Tryd.underlying85 hd
  have hc54 : Tryd.prog.cellsOf 85 = 54 := by kernel_rfl
  have hc6 : Tryd.prog.cellsOf 84 = 6 := by kernel_rfl
  have hc1 : Tryd.prog.cellsOf 3 = 1 := by kernel_rfl
  rw [hc54] at hl
  simp only [hc6] at he
  have hxs : xs.map (·.1) = nextRows.map fun r => (Lib.tabData .i64 r : DataW Unit) := by
    have := congrArg Prod.fst hx
    simp only [Rows.laid_tabularium_num_next, DataW.agg.injEq] at this
    exact this.symm
  have hrow : ∀ i, (hi : i < 9) → (cs.toList.drop (i * 6)).take 6 = (nextRows.getD i []).map fun z => Value.int .i64 z := by
    intro i hi
    have h1 := he i hi
    have h2 : (xs.map (·.1))[i]? = some (Lib.tabData .i64 (nextRows.getD i [])) := by
      rw [hxs, List.getElem?_map, List.getD_eq_getElem?_getD, List.getElem?_eq_getElem (show i < nextRows.length from hi)]
      rfl
    rw [List.getElem?_map] at h2
    cases hq : xs[i]? with
    | none => rw [hq] at h2; cases h2
    | some y =>
      rw [hq] at h1 h2
      obtain ⟨y1, y2⟩ := y
      have h3 : y1 = Lib.tabData .i64 (nextRows.getD i []) := Option.some.inj h2
      subst h3
      exact Lib.cells_of_tab Tryd.underlying84 Tryd.underlying3 hc1 hc6 h1
  have hcell : ∀ j, j < 54 → cs.toList[j]? = some (.int .i64 (Nm.tab.getD j 0 : Nat)) := by
    intro j hj
    have h1 := hrow (j / 6) (by omega)
    have h2 : ((cs.toList.drop (j / 6 * 6)).take 6)[j % 6]? = cs.toList[j]? := by
      rw [List.getElem?_take_of_lt (by omega), List.getElem?_drop]
      congr 1
      omega
    rw [← h2, h1, List.getElem?_map]
    have : ∀ k : Fin 54, ((nextRows.getD (k.val / 6) [])[k.val % 6]?).map (fun z => Value.int .i64 z) = some (.int .i64 (Nm.tab.getD k.val 0 : Nat)) := by
      intro k
      have h9 : ∀ k : Fin 54, (nextRows.getD (k.val / 6) [])[k.val % 6]? = some ((Nm.tab.getD k.val 0 : Nat) : Int) := by decide +kernel
      rw [h9 k]; rfl
    exact this ⟨j, hj⟩
  have hat : ∀ j, j < 54 → W.cell? ⟨1, j, none⟩ = some (.int .i64 (Nm.tab.getD j 0 : Nat)) := by
    intro j hj
    have h1 := World.var?_cell hg hvar j
    rw [h1, ← hcell j hj]
    simp
  exact ⟨cell_lt (hat 0 (by omega)), hat⟩
theorem sgnT_of_laid {W : World} (h : laidMet Tryd.prog [("tabularium/lex.signs", Rows.laid_tabularium_lex_signs)] W) : SgnT W := by
  obtain ⟨ps, ⟨g', t', cs, fuel, p, q, hg', ht', hvar, hd, _, _⟩, _⟩ := h
  have hg : Tryd.prog.globalNamed "tabularium/lex.signs" = some 0 := by kernel_rfl
  have ht : (Tryd.prog.globals[(0 : Nat)]?).map (·.type) = some 77 := by kernel_rfl
  obtain rfl := Option.some.inj (hg.symm.trans hg')
  obtain rfl := Option.some.inj (ht.symm.trans ht')
  obtain ⟨xs, m, rfl, hx, hl, hxl, he⟩ := DataW.trod_array Tryd.underlying77 hd
  have hc1 : Tryd.prog.cellsOf 9 = 1 := by kernel_rfl
  simp only [hc1] at he
  have hxs : xs.map (·.1) = lexSigns.map fun r => (DataW.lit (.string r) : DataW Unit) := by
    have := congrArg Prod.fst hx
    simp only [Rows.laid_tabularium_lex_signs, DataW.agg.injEq] at this
    exact this.symm
  intro j hj
  have h1 := he j hj
  have h2 : (xs.map (·.1))[j]? = some (DataW.lit (.string (lexSigns.getD j []))) := by
    rw [hxs, List.getElem?_map, List.getD_eq_getElem?_getD, List.getElem?_eq_getElem (show j < lexSigns.length from hj)]
    rfl
  rw [List.getElem?_map] at h2
  cases hq : xs[j]? with
  | none => rw [hq] at h2; cases h2
  | some y =>
    rw [hq] at h1 h2
    obtain ⟨y1, y2⟩ := y
    have h3 : y1 = DataW.lit (.string (lexSigns.getD j [])) := Option.some.inj h2
    subst h3
    obtain ⟨s, hs, hs2, _⟩ := DataW.trod_string Tryd.underlying9 h1
    simp only [Prod.mk.injEq, DataW.lit.injEq, Lit.string.injEq] at hs2
    have h4 : cs.toList[j]? = some (.string s) := by
      have := congrArg (·[0]?) hs
      simpa [List.getElem?_take, List.getElem?_drop] using this
    have h5 := World.var?_cell hg hvar j
    rw [h5]
    have h6 : cs[j]? = cs.toList[j]? := by simp
    rw [h6, h4, hs2.1, ← str_data]
theorem lexW_of_laid {W : World} {laid : List (String × DataW Unit)} {m : Int} (h : laidMet Tryd.prog laid W) (h1 : ("tabularium/utf.forms", Rows.laid_tabularium_utf_forms) ∈ laid) (h2 : ("tabularium/num.next", Rows.laid_tabularium_num_next) ∈ laid) (h3 : ("tabularium/lex.signs", Rows.laid_tabularium_lex_signs) ∈ laid)
    (hm : W.cell? ⟨2, 0, none⟩ = some (.int .i64 m)) : LexW m W :=
  ⟨forms_of_laid (laidMet_one h h1), numT_of_laid (laidMet_one h h2), hm, sgnT_of_laid (laidMet_one h h3)⟩

/-- The cells that a datum of at most two levels lays. -/
def lit1 : DataW Unit → List Value
  | .lit (.int k n) => [.int k n]
  | .lit (.string s) => [.string ⟨s.toArray⟩]
  | _ => []
def lit2 : DataW Unit → List Value
  | .agg l => l.flatMap fun d => match d with | .agg m => m.flatMap lit1 | d => lit1 d
  | d => lit1 d
def laidCells (d : DataW Unit) : Obj → Obj
  | .cells _ t frozen => .cells (lit2 d).toArray t frozen
  | o => o
end Go.Proofs.YthabfgpncebigaaDoor

/- tabulariumlaw11: whole, of tokens that are the same; wakes. -/
namespace Go.Proofs.YthabfgpncebigaaDoor
open Go.RowKit

theorem held_tok : Tryd.prog.stoodInHeld 33 = false := by kernel_rfl
theorem guard_tok : Tryd.prog.eqGuardType Tryd.prog.depth 33 = false := by kernel_rfl
theorem Rd3.len {w : World} {A : Option Addr} {n c : Nat} {l : List Lx.Tok} (h : Rd w 3 A n c (tval l)) : n = l.length := by have h1 := h.1; rw [tval_length] at h1; omega
/-- A token's three cells in a slice that reads as tokens. -/
theorem Rd3.cells {w : World} {ad : Addr} {n c : Nat} {l : List Lx.Tok} (h : Rd w 3 (some ad) n c (tval l)) {k : Nat} (hk : k < l.length) :
    w.cell? (ad.add (k * 3)) = some (.int .i64 l[k].k) ∧ w.cell? ⟨(ad.add (k * 3)).block, (ad.add (k * 3)).off + 1, none⟩ = some (.string (str l[k].t)) ∧ w.cell? ⟨(ad.add (k * 3)).block, (ad.add (k * 3)).off + 2, none⟩ = some (.int .i64 l[k].p) := by
  have h0 := Rd.cell h (tval_get hk).1
  have h1 := Rd.cell h (tval_get hk).2.1
  have h2 := Rd.cell h (tval_get hk).2.2
  rw [← add_of_add] at h1 h2
  exact ⟨h0, h1, h2⟩

set_option maxRecDepth 100000 in
set_option maxHeartbeats 1000000 in
theorem whole_same (a : List Lx.Tok) (A B : Option Addr) (n c m d : Nat) (w : World) (ha : Rd w 3 A n c (tval a)) (hb : Rd w 3 B m d (tval a)) :
    Calls Tryd.prog 11 #[.slice A n c, .slice B m d] w fun e w' => e = .returned (.bool true) ∧ Below w.heap.size w w' := by
  have hla := Rd3.len ha
  have hlb := Rd3.len hb
  have hmax := Rd.max ha
  obtain rfl : n = m := by omega
  have HA := Lib.hid hla
  clear hla hlb
  have hc : ((n : Int) != (n : Int)) = false := by simp
  have hh := held_tok
  have hgu := guard_tok
  go_enter Tryd.func11, Tryd.ntmps11
  go_wp2
  go_loopw [13] (fun i wr => ∃ k : Nat, k ≤ n ∧ i = .int .i64 k ∧ ∃ q, wr = w.drewN q) (fun i _ => n - (intOf i).toNat)
  case atStart => exact ⟨0, Nat.zero_le _, rfl, 0, rfl⟩
  case round =>
    obtain ⟨k, hk, rfl, q, rfl⟩ := hrel
    by_cases hlt : k < n
    · obtain ⟨ad, rfl⟩ := Rd.addr ha (by omega)
      obtain ⟨bd, rfl⟩ := Rd.addr hb (by omega)
      have hka : k < a.length := by have := HA.out; omega
      obtain ⟨a0, a1, a2⟩ := Rd3.cells ha hka
      obtain ⟨b0, b1, b2⟩ := Rd3.cells hb hka
      generalize a[k].k = tk at *
      generalize a[k].t = tt at *
      generalize a[k].p = tp at *
      have e1 : (tk == tk) = true := by simp
      have e2 : (tt == tt) = true := by simp
      have e3 : (tp == tp) = true := by simp
      go_wp2
      go_quiet (fail)
      go_wp2
      go_roundw
      case rel => exact ⟨k + 1, by omega, by go_num, _, rfl⟩
      case measure => simp [intOf]; omega
    · go_wp2
      go_ret
      exact ⟨rfl, below_drewN_self _ _ _⟩

/-- The number of one digit. -/
theorem numV_one : (Nm.numV [49]).2 = 0 := by
  obtain ⟨p, hp, htx, hv⟩ := Nm.numV_ok (l := [49]) ⟨by decide, by decide⟩
  rw [hv]
  have hw : p.W = [49] ∧ p.f = [] ∧ p.sn = [] ∧ p.d = [] ∧ p.ng = false := by
    obtain ⟨ng, W, fo, f, eo, e, sn, d⟩ := p
    unfold Nm.Parts.text Nm.Parts.sg Nm.Parts.fr Nm.Parts.exE at htx
    simp only at htx
    have h0 := hp.w0
    have h1 := hp.fo
    have h2 := hp.eo
    simp only at h0 h1 h2
    cases ng
    · cases W with
      | nil => exact absurd rfl h0
      | cons b r =>
        simp only [Bool.false_eq_true, if_false, List.nil_append, List.cons_append] at htx
        injection htx with hb hr
        have hr2 := List.append_eq_nil_iff.1 hr.symm
        have hr3 := List.append_eq_nil_iff.1 hr2.2
        cases fo
        · cases eo
          · exact ⟨by rw [hb, hr2.1], h1 rfl, (h2 rfl).2, (h2 rfl).1, rfl⟩
          · simp at hr3
        · simp at hr3
    · simp only [if_true, List.singleton_append] at htx
      injection htx with hb hr
      exact absurd hb (by decide)
  unfold Nm.numB
  rw [hw.1, hw.2.1, hw.2.2.1, hw.2.2.2.1, hw.2.2.2.2]
  decide

theorem one_num1 (r : List UInt8) (h : Nm.scan (49 :: r) = 1) : Lx.one (49 :: r) = ⟨2, 1, 0, 0⟩ := by
  rw [one_at (b := 49) (by simp) rfl, if_neg (by decide), if_neg (by decide), if_pos (by decide), h]
  rw [show (49 :: r).take 1 = [49] from rfl, numV_one]
theorem wk4 : Lx.walk 6 [35, 32, 120] = ([⟨6, [35, 32, 120], 6⟩], -1, 0) := by
  rw [Lx.walk_tok rfl (by rfl)]
  rfl
theorem wk3 : Lx.walk 4 [49, 32, 35, 32, 120] = ([⟨2, [49], 4⟩, ⟨6, [35, 32, 120], 6⟩], -1, 0) := by
  have ho := one_num1 [32, 35, 32, 120] (by decide)
  rw [Lx.walk_tok rfl (by rw [ho]), ho]
  show (_ :: (Lx.walk 5 [32, 35, 32, 120]).1, (Lx.walk 5 [32, 35, 32, 120]).2) = _
  rw [Lx.walk_blank rfl, wk4]
  rfl
theorem wk1 : Lx.walk 0 [97, 32, 61, 32, 49, 32, 35, 32, 120] = ([⟨1, [97], 0⟩, ⟨4, [61], 2⟩, ⟨2, [49], 4⟩, ⟨6, [35, 32, 120], 6⟩], -1, 0) := by
  rw [Lx.walk_tok rfl (by rfl)]
  show (_ :: (Lx.walk 1 [32, 61, 32, 49, 32, 35, 32, 120]).1, (Lx.walk 1 [32, 61, 32, 49, 32, 35, 32, 120]).2) = _
  rw [Lx.walk_blank rfl, Lx.walk_tok rfl (by rfl)]
  show (_ :: _ :: (Lx.walk 3 [32, 49, 32, 35, 32, 120]).1, (Lx.walk 3 [32, 49, 32, 35, 32, 120]).2) = _
  rw [Lx.walk_blank rfl, wk3]
  rfl
theorem wk2 : (Lx.walk 0 [97, 32, 38, 32, 98]).2 = (2, 3) := by
  rw [Lx.walk_tok rfl (by rfl)]
  show (Lx.walk 1 [32, 38, 32, 98]).2 = _
  rw [Lx.walk_blank rfl, Lx.walk_bad rfl (by decide)]
  rfl
end Go.Proofs.YthabfgpncebigaaDoor

/- tabulariumlaw11: wakes. -/
namespace Go.Proofs.YthabfgpncebigaaDoor
open Go.RowKit

theorem own_cell {w : World} {base n c i : Nat} {A : Option Addr} {l : List Lx.Tok} {v : Value} (h : w.ownsRow base 33 3 (.slice A n c) n (tval l)) {g : Nat} (hA : A = some ⟨g, 0, none⟩) (hv : (tval l)[i]? = some v) : w.cell? ⟨g, i, none⟩ = some v := by
  have hr := Rd.of_own h
  subst hA
  have := Rd.cell hr hv
  rw [Addr.add_mid, Nat.zero_add] at this
  exact this

set_option maxRecDepth 100000 in
set_option maxHeartbeats 1000000 in
theorem lwakes_any (m : Int) (w : World) (hw : LexW m w) : Calls Tryd.prog 8 #[] w fun e w' => e = .returned (.bool true) ∧ Below w.heap.size w w' := by
  have h1 := lparse_any [97, 32, 61, 32, 49, 32, 35, 32, 120] m w hw (by decide)
  rw [wk1] at h1
  have h2 := fun W hW => lparse_any [97, 32, 38, 32, 98] m W hW (by decide)
  have h3 := wk2
  generalize Lx.walk 0 [97, 32, 38, 32, 98] = x2 at *
  obtain ⟨t2, p2, e2⟩ := x2
  simp only [Prod.mk.injEq] at h3
  obtain ⟨rfl, rfl⟩ := h3
  go_enter Tryd.func8, Tryd.ntmps8
  go_wp2_with fail
  refine h1.mono ?_
  rintro e w2 ⟨A, n, c, rfl, hrow, hB⟩
  have hW2 := hw.below hB
  obtain rfl : n = 4 := by
    have := hrow.1
    rw [tval_length] at this
    simp at this
    omega
  obtain ⟨g, hA, _⟩ := own_head hrow (by omega)
  have hrow2 := hrow
  clear h1
  go_wp2_with fail
  refine (h2 _ hW2).mono ?_
  rintro e w3 ⟨A2, n2, c2, rfl, _, hB3⟩
  have hc : w3.cell? ⟨g, 10, none⟩ = some (.string (str [35, 32, 120])) := own_cell (i := 10) (own_keep hrow2 hB3) hA rfl
  have hBB := hB.trans (hB3.mono hB.size)
  subst hA
  clear h2 hrow hrow2 hW2
  go_wp2_with fail
  go_returns
  exact ⟨rfl, hBB⟩
end Go.Proofs.YthabfgpncebigaaDoor
