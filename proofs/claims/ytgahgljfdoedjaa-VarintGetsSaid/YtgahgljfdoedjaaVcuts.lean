/- VarintCuts: the walk. -/
import Derived.Test.YtgahgljfdoedjaaVorder
import Derived.Deep.RegionHeld3
import Derived.Deep.DeepCutAuto
namespace Go.Proofs.Ytgahgljfdoedjaa
open Go.RowKit

theorem bval_long (x : UInt8) : bval [UInt8.ofNat (x.toNat % 128 + 128), 0] = [.int .u8 ((x.toNat : Int) % 128 + 128), .int .u8 0] := by
  have e := Var.toNat_or128 x
  have e2 : ((x.toNat % 128 + 128 : Nat) : Int) = (x.toNat : Int) % 128 + 128 := by omega
  simp only [bval, List.map_cons, List.map_nil, e, e2]
  rfl
theorem madeAt {base : Nat} {e : TypeId} (w : World) (g : Nat) (hb : base ≤ w.heap.size) (hg : w.heap.size = g) : (w.alloc (.cells #[] e)).ownsRow base e 1 (.slice (some ⟨g, 0, none⟩) 0 0) 0 [] := by
  subst hg
  exact World.ownsRow_made w #[] 0 hb (by simp [maxLen]) rfl
theorem S_of {a w' : World} {p : Addr} {v : Value} (h : Below a.heap.size a w') (hx : a.cell? p = some v) : Below a.heap.size a w' ∧ w'.cell? p = some v :=
  ⟨h, (h.cell (World.block_lt_of_cell? a p hx)).trans hx⟩
theorem S_left {a w' : World} {p : Addr} {v : Value} (h : Below a.heap.size a w' ∧ w'.cell? p = some v) : Below a.heap.size a w' := h.1
theorem S_alloc {a w' : World} {p : Addr} {v : Value} {o : Obj} (h : Below a.heap.size a w' ∧ w'.cell? p = some v) (hx : a.cell? p = some v) : Below a.heap.size a (w'.alloc o) ∧ (w'.alloc o).cell? p = some v :=
  S_of (h.1.alloc h.1.size _) hx
theorem S_app {a w' w'' : World} {p : Addr} {v u : Value} {e : TypeId} {n : Nat} {xs : List Value} (h : Below a.heap.size a w' ∧ w'.cell? p = some v) (hown : w'.ownsRow a.heap.size e 1 u n xs) (hg : w'.grownBy w'' u.ownBlock) : Below a.heap.size a w'' :=
  below_append h.1 hown hg (Nat.le_refl _) h.1.size

set_option maxRecDepth 100000 in
set_option maxHeartbeats 400000 in
theorem vcuts_any (n j : Nat) (w : World) (hn : n < 18446744073709551616) (hj : j < 256) :
    Calls Try.prog 5 #[.int .u64 n, .int .u8 j] w fun e w' => e = .returned (.bool true) ∧ Below w.heap.size w w' := by
  obtain ⟨i0, hi, hz0, hz1, hz2⟩ := info_parts infoU8
  have hlen := Var.put_length n
  go_enter Try.func5, Try.ntmps5
  go_wp2_with fail
  refine (vwakes_any _).mono ?_
  rintro e w1 ⟨rfl, hb1⟩
  go_wp2_with fail
  refine (put_any n _ hn).mono ?_
  rintro e w2 ⟨A, m, c, rfl, hown, hb2⟩
  have hbs := Bs.of_own hown
  have hm := hbs.len
  have HM := Lib.hid hm
  have hm1 : 1 ≤ m := by omega
  have hm10 : m ≤ 10 := by omega
  have hmc := hbs.2.1
  have hm0 : ((m : Int) == 0) = false := by simp; omega
  have hqm : j % m < m := Nat.mod_lt _ (by omega)
  have hq0 : 0 ≤ (j : Int) % m := by omega
  have hq2 : (j : Int) % m ≤ c := by omega
  clear hm hlen
  go_wp2_with fail
  have hc := get_any ((Var.put n).take (j % m)) A (j % m) c w2 (hbs.upto (by omega))
  rw [Var.get_cut hn (by have := HM.out; omega)] at hc
  refine hc.mono ?_
  rintro e w3 ⟨rfl, rfl⟩
  clear hc
  obtain ⟨L, x, hL⟩ : ∃ L x, Var.put n = L ++ [x] := by
    have hne : Var.put n ≠ [] := by intro e; have := HM.out; rw [e] at this; simp at this; omega
    exact ⟨_, _, (List.dropLast_concat_getLast hne).symm⟩
  have hlm : m = L.length + 1 := by have := HM.out; rw [hL] at this; simpa using this
  have HL := Lib.hid hL
  have hlong := Lib.hid (Var.get_long hn hL)
  subst hlm
  obtain ⟨ad, rfl⟩ := hbs.addr (by omega)
  have hx : w2.cell? (ad.add L.length) = some (.int .u8 (x.toNat : Int)) := by
    have := hbs.cell (k := L.length) (by rw [hL]; simp)
    simpa [hL] using this
  have hL2 : Bs w2 (some ad) L.length c L := by
    have := hbs.upto (k := L.length) (by omega)
    simpa [hL] using this
  clear hL
  have hw1 : IntKind.i64.wrap (L.length : Int) = L.length := IntWalk.i64_in _ (by omega)
  have hw2 : IntKind.i64.wrap ((L.length : Int) + 1 - 1) = L.length := by rw [show (L.length : Int) + 1 - 1 = L.length by omega]; exact hw1
  have hl0 : 0 ≤ (L.length : Int) := by omega
  have hl1 : (L.length : Int) < (L.length : Int) + 1 := by omega
  have hl2 : (L.length : Int) ≤ c := by omega
  have hor : bits .or .u8 (x.toNat : Int) 128 = (x.toNat : Int) % 128 + 128 := by
    have := or128 x.toNat
    rwa [show (x.toNat : Int) % 256 = x.toNat by have := x.toNat_lt; omega] at this
  go_upto_region 7 with (fail)
  go_cut [9] (fun s9 wx => ∃ A4 c4, s9 = .slice A4 (L.length + 2) c4 ∧ Bs wx A4 (L.length + 2) c4 (L ++ [UInt8.ofNat (x.toNat % 128 + 128), 0]) ∧ Below w2.heap.size w2 wx)
  case first =>
    go_region_held3 (fun w' => Below w2.heap.size w2 w' ∧ w'.cell? (ad.add L.length) = some (.int .u8 (x.toNat : Int)))
      (first
        | exact S_of (Below.refl _ _).drew hx
        | exact S_of (by assumption) hx
        | exact S_alloc (by assumption) hx)
      (first
      | (refine step_append_rd _ rfl (.tmp 32) (.tmp 37) _ rfl w2.heap.size 5 i0 _ 1 1 Try.underlying23 hi hz0 hz1 hz2 rfl (by omega) _ _ _ (World.ownsRow_made w2 #[] 0 (Nat.le_refl _) (by simp [maxLen]) rfl).drew rfl _ _ _ _ (hL2.below (S_left (by assumption))) rfl (bval_one _) (by unfold maxLen; omega) (by omega) (S_left (by assumption)).size L.length (by omega) (bval L) (by simp) ?_
         intro A6 c6 w6 hown6 hg6 _
         have hb6 := S_app (by assumption) (World.ownsRow_made w2 #[] 0 (Nat.le_refl _) (by simp [maxLen]) rfl).drew hg6)
      | (refine step_append_rd _ rfl (.tmp 32) (.tmp 37) _ rfl w2.heap.size 5 i0 _ 1 1 Try.underlying23 hi hz0 hz1 hz2 rfl (by omega) _ _ _ ((World.ownsRow_made w2 #[] 0 (Nat.le_refl _) (by simp [maxLen]) rfl).alloc _).drew rfl _ _ _ _ (hL2.below (S_left (by assumption))) rfl (bval_one _) (by unfold maxLen; omega) (by omega) (S_left (by assumption)).size L.length (by omega) (bval L) (by simp) ?_
         intro A6 c6 w6 hown6 hg6 _
         have hb6 := S_app (by assumption) ((World.ownsRow_made w2 #[] 0 (Nat.le_refl _) (by simp [maxLen]) rfl).alloc _).drew hg6)
      | (refine step_append_rd _ rfl (.tmp 32) (.tmp 37) _ rfl w2.heap.size 5 i0 _ 1 1 Try.underlying23 hi hz0 hz1 hz2 rfl (by omega) _ _ _ (madeAt (w2.alloc _) (w2.heap.size + 1) (by simp) (by simp)).drew rfl _ _ _ _ (hL2.below (S_left (by assumption))) rfl (bval_one _) (by unfold maxLen; omega) (by omega) (S_left (by assumption)).size L.length (by omega) (bval L) (by simp) ?_
         intro A6 c6 w6 hown6 hg6 _
         have hb6 := S_app (by assumption) (madeAt (w2.alloc _) (w2.heap.size + 1) (by simp) (by simp)).drew hg6)
      | (refine step_append_rd _ rfl (.tmp 38) (.tmp 46) _ rfl w2.heap.size 5 i0 _ 1 1 Try.underlying23 hi hz0 hz1 hz2 rfl (by omega) _ _ _ (hown6.alloc _) rfl _ 2 2 _ (Rd.new w6 5 [.int .u8 ((x.toNat : Int) % 128 + 128), .int .u8 0] (by simp [maxLen])) rfl (by simp [Value.oneCell']) (by unfold maxLen; omega) (by omega) (S_left (by assumption)).size (L.length + 2) rfl _ rfl ?_
         intro A7 c7 w7 hown7 hg7 _
         have hb7 := S_app (by assumption) (hown6.alloc _) hg7)
      | (refine step_append_rd _ rfl (.tmp 38) (.tmp 46) _ rfl w2.heap.size 5 i0 _ 1 1 Try.underlying23 hi hz0 hz1 hz2 rfl (by omega) _ _ _ hown6 rfl _ 2 2 _ ((Rd.newAt (w2.alloc _) 5 [.int .u8 ((x.toNat : Int) % 128 + 128), .int .u8 0] (by simp [maxLen]) (w2.heap.size + 1) (by simp)).drew.grown hg6 (by intro ad e; cases e; simp [Value.ownBlock])) rfl (by simp [Value.oneCell']) (by unfold maxLen; omega) (by omega) (S_left (by assumption)).size (L.length + 2) rfl _ rfl ?_
         intro A7 c7 w7 hown7 hg7 _
         have hb7 := S_app (by assumption) hown6 hg7)
      | (refine step_append_rd _ rfl (.tmp 38) (.tmp 46) _ rfl w2.heap.size 5 i0 _ 1 1 Try.underlying23 hi hz0 hz1 hz2 rfl (by omega) _ _ _ hown6 rfl _ 2 2 _ (((Rd.new w2 5 [.int .u8 ((x.toNat : Int) % 128 + 128), .int .u8 0] (by simp [maxLen])).alloc _).drew.grown hg6 (by intro ad e; cases e; simp [Value.ownBlock])) rfl (by simp [Value.oneCell']) (by unfold maxLen; omega) (by omega) (S_left (by assumption)).size (L.length + 2) rfl _ rfl ?_
         intro A7 c7 w7 hown7 hg7 _
         have hb7 := S_app (by assumption) hown6 hg7)
      )
    all_goals
      go_wp2_with fail
      go_meet
      refine ⟨A7, c7, rfl, ?_, hb7⟩
      unfold Bs
      rw [bval_append, bval_long]
      exact Rd.of_own hown7
  case rest =>
    obtain ⟨A4, c4, rfl, hbs4, hb4⟩ := hcut
    go_wp2_with fail
    refine (get_any _ _ _ _ _ hbs4).mono ?_
    rintro e w4 ⟨rfl, rfl⟩
    rcases hlong.out with h3 | ⟨h10, h4⟩
    · rw [h3]
      go_wp2
      go_ret
      exact ⟨rfl, (hb1.trans (hb2.mono hb1.size)).trans (hb4.mono (Nat.le_trans hb1.size hb2.size))⟩
    · have hl10 : ((L.length : Int) + 1 == 10) = true := by have := HM.out; simp; omega
      clear h10
      rw [h4]
      go_wp2
      go_ret
      exact ⟨rfl, (hb1.trans (hb2.mono hb1.size)).trans (hb4.mono (Nat.le_trans hb1.size hb2.size))⟩
end Go.Proofs.Ytgahgljfdoedjaa
