/- Crc: the example holds; CrcOrder. -/
import Derived.Test.YtcoilgfjabnoeaaCrcw
import Derived.Lib.QuietBelow
import Derived.Sort.AtCall
import Derived.Deep.DeepCutAuto
import Derived.StillTailTactics
import Derived.Lib.SlBytesConst
namespace Go.Proofs.Ytcoilgfjabnoeaa
open Go.RowKit

/-- What a new block of cells, marked or not, reads as. -/
theorem Rd.newF (w : World) (e : TypeId) (fr : Nat × Nat) (cs : List Value) (hm : cs.length ≤ maxLen) : Rd (w.alloc (.cells cs.toArray e fr)) 1 (some ⟨w.heap.size, 0, none⟩) cs.length cs.length cs := by
  refine ⟨by simp, Nat.le_refl _, hm, fun _ => ⟨_, rfl, by simp, fun j u hu => ?_⟩⟩
  have hadd : (⟨w.heap.size, 0, none⟩ : Addr).add j = ⟨w.heap.size, j, none⟩ := by unfold Addr.add; split <;> simp_all
  rw [hadd, cell_of_row _ w.heap.size j cs.toArray e fr (heap_alloc_new w _)]
  simpa using hu
theorem crc_check : Crc.of [49, 50, 51, 52, 53, 54, 55, 56, 57] = 3421780262 := by decide +kernel

set_option maxHeartbeats 1000000 in
set_option maxRecDepth 100000 in
theorem cwakes_any (w : World) : Calls Try.prog 12 #[] w fun e w' => e = .returned (.bool true) ∧ Below w.heap.size w w' := by
  have kc := fun (w : World) (C : Array Value) (n c : Nat) => Lib.run_convert_bytes_const (P := Try.prog) w 22 5 C n c Try.underlying22 Try.underlying5
  go_enter Try.func12, Try.ntmps12
  go_wp2_with fail
  refine (of_any [49, 50, 51, 52, 53, 54, 55, 56, 57] _ _ _ _ (Rd.newF w 5 (9, 10) (bval [49, 50, 51, 52, 53, 54, 55, 56, 57]) (by simp [bval, maxLen]))).mono ?_
  rintro e w1 ⟨rfl, hb⟩
  rw [crc_check]
  go_wp2
  go_ret
  exact ⟨rfl, ((Below.refl _ _).alloc (Nat.le_refl _) _).trans (hb.mono (by simp))⟩

theorem fill_set {α : Type} (z : α) (l : List α) (k N : Nat) (h : k < N) (hl : k < l.length) : (l.take k ++ List.replicate (N - k) z).set k l[k] = l.take (k + 1) ++ List.replicate (N - (k + 1)) z := by
  rw [List.set_append_right _ _ (by rw [List.length_take]; omega), List.length_take, Nat.min_eq_left (by omega), Nat.sub_self, show N - k = (N - (k + 1)) + 1 by omega, List.replicate_succ, List.set_cons_zero, List.take_succ_eq_append_getElem hl]
  rw [List.append_assoc]; rfl
/-- The block of a row that is filled from the left. -/
def Fill (w : World) (g N k : Nat) (l : List UInt8) : Prop := w.heap[g]? = some (.cells (bval (l.take k ++ List.replicate (N - k) 0)).toArray 5 (0, 0))
theorem Fill.store {w : World} {g N k : Nat} {l : List UInt8} (h : Fill w g N k l) (hk : k < N) (hl : k < l.length) : Fill (w.setCell ⟨g, k, none⟩ (.int .u8 (l[k].toNat : Int))) g N (k + 1) l := by
  unfold Fill at *
  rw [heap_setCell_same w g k _ _ _ h, ← fill_set (0 : UInt8) l k N hk hl]
  congr 2
  simp [bval, List.map_set]
theorem Fill.other {w : World} {g N k : Nat} {l : List UInt8} (h : Fill w g N k l) (a : Addr) (v : Value) (hne : g ≠ a.block) : Fill (w.setCell a v) g N k l := by
  unfold Fill at *
  rw [Below.heap_setCell _ _ _ _ hne]; exact h
theorem Fill.drew {w : World} {g N k : Nat} {l : List UInt8} (h : Fill w g N k l) : Fill w.drew g N k l := h
theorem Fill.cell {w : World} {g N k j : Nat} {l : List UInt8} (h : Fill w g N k l) (hj : j < N) (hN : N = l.length) : (w.cell? ⟨g, j, none⟩).isSome = true := by
  rw [cell_of_row _ _ _ _ _ _ h]; simp [bval]; omega
theorem Fill.free {w : World} {g N k : Nat} {l : List UInt8} (h : Fill w g N k l) (j : Nat) : w.frozen? ⟨g, j, none⟩ = false := frozen_of_row _ _ _ _ _ h
theorem bs_of_block {w : World} {g : Nat} {l : List UInt8} {e : TypeId} (h : w.heap[g]? = some (.cells (bval l).toArray e (0, 0))) (hm : l.length ≤ maxLen) : Bs w (some ⟨g, 0, none⟩) l.length l.length l := by
  refine ⟨by simp [bval], Nat.le_refl _, hm, fun _ => ⟨_, rfl, (Array.getElem?_eq_some_iff.1 h).1, fun j u hu => ?_⟩⟩
  have hadd : (⟨g, 0, none⟩ : Addr).add j = ⟨g, j, none⟩ := by unfold Addr.add; split <;> simp_all
  rw [hadd, cell_of_row _ g j _ _ _ h]
  simpa using hu

theorem info_u8 : (Try.prog.info? 5).map (fun i => (i.zero, i.size, i.bytes)) = some (some (.int .u8 0), 1, 1) := by kernel_rfl
theorem three_blocks (w1 : World) (o : Obj) : Below w1.heap.size w1 (((w1.alloc o).alloc o).alloc o).drew ∧ ∀ G, w1.heap.size ≤ G → G < w1.heap.size + 3 → (((w1.alloc o).alloc o).alloc o).drew.heap[G]? = some o := by
  refine ⟨((((Below.refl _ _).alloc (Nat.le_refl _) _).alloc (by simp) _).alloc (by simp; omega) _).drew, fun G h1 h2 => ?_⟩
  show (((w1.heap.push o).push o).push o)[G]? = some o
  simp only [Array.getElem?_push, Array.size_push]
  split
  · rfl
  · split
    · rfl
    · split
      · rfl
      · omega
set_option maxRecDepth 1000000 in
theorem make_bytes (N : Nat) (hN : N ≤ 281474976710656) (w : World) : (Instr.makeSlice 22 (.int .i64 (N : Int)) (.int .i64 (N : Int))).run Try.prog w = .ok (.slice (some ⟨w.heap.size, 0, none⟩) N N) (w.alloc (.cells (bval (List.replicate N 0)).toArray 5)) := by
  obtain ⟨i0, hi, hz0, hz1, hz2⟩ := info_parts info_u8
  have h := run_make (P := Try.prog) w 22 5 i0 (.int .u8 0) Try.underlying22 hi hz0 .i64 .i64 N N (by omega) (by omega) (by rw [hz2]; omega) (by omega)
  rw [h, hz1]
  simp only [Int.toNat_natCast, Nat.mul_one]
  congr 2
  congr 1
  apply Array.ext'
  rw [show (Value.int .u8 0).cells = #[.int .u8 0] from rfl, toList_madeCells_one]
  simp [bval]

set_option maxHeartbeats 2000000 in
set_option maxRecDepth 100000 in
theorem crcorder_any (a b : List UInt8) (A B : Option Addr) (n c m d : Nat) (w : World) (ha : Bs w A n c a) (hb : Bs w B m d b) :
    Calls Try.prog 3 #[.slice A n c, .slice B m d] w fun e w' => e = .returned (.bool true) ∧ Below w.heap.size w w' := by
  have hla := ha.len
  have hlb := hb.len
  have hma := ha.max
  have hmb := hb.max
  obtain ⟨N, hN⟩ : ∃ N : Nat, N = min n m := ⟨_, rfl⟩
  have hNi : (if m < n then (m : Int) else (n : Int)) = (N : Int) := by split <;> omega
  have hNn : N ≤ n := by omega
  have hNm : N ≤ m := by omega
  have HN := Lib.hid hN
  have HL := Lib.hid (And.intro hla hlb)
  clear hN hla hlb
  go_enter Try.func3, Try.ntmps3
  go_wp2_with fail
  refine (cwakes_any w).mono ?_
  rintro e w1 ⟨rfl, hb1⟩
  by_cases h : N ≤ 1000
  · have d1 : decide ((1000 : Int) < N) = false := by simp; omega
    have hmk := make_bytes N (by omega)
    have h1b := ha.below hb1
    have h2b := hb.below hb1
    go_upto_region 6 with (fail)
    go_cut [6, 7, 8] (fun x y z wx => ∃ X Y Z : Nat, x = .slice (some ⟨X, 0, none⟩) N N ∧ y = .slice (some ⟨Y, 0, none⟩) N N ∧ z = .slice (some ⟨Z, 0, none⟩) N N ∧
      Hid (X ≠ Y ∧ X ≠ Z ∧ Y ≠ Z ∧ w1.heap.size ≤ X ∧ w1.heap.size ≤ Y ∧ w1.heap.size ≤ Z ∧ Below w1.heap.size w1 wx ∧ (∀ G, G = X ∨ G = Y ∨ G = Z → wx.heap[G]? = some (.cells (bval (List.replicate N 0)).toArray 5 (0, 0)))))
    case first =>
      go_region
      all_goals (go_wp2_with fail; go_meet)
      all_goals refine ⟨_, _, _, rfl, rfl, rfl, ?_⟩
      all_goals exact ⟨by omega, by omega, by omega, by omega, by omega, by omega, (three_blocks _ _).1, fun G h => (three_blocks _ _).2 G (by omega) (by omega)⟩
    case rest =>
      obtain ⟨X, Y, Z, rfl, rfl, rfl, HC⟩ := hcut
      clear hmk
      have hxl : (List.zipWith (· ^^^ ·) (a.take N) (b.take N)).length = N := by have := HL.out; simp; omega
      have hyl : (a.take N).length = N := by have := HL.out; simp; omega
      have hbl : (b.take N).length = N := by have := HL.out; simp; omega
      obtain ⟨xs, hxs⟩ : ∃ xs, xs = List.zipWith (· ^^^ ·) (a.take N) (b.take N) := ⟨_, rfl⟩
      have hget : ∀ (k : Nat) (h1 : k < a.length) (h2 : k < b.length) (h : k < N), ∃ h3 : k < xs.length, xs[k] = a[k] ^^^ b[k] := fun k h1 h2 h => by subst hxs; exact ⟨by omega, by simp⟩
      have hgety : ∀ (k : Nat) (h1 : k < a.length) (h : k < (a.take N).length), (a.take N)[k] = a[k] := fun k h1 h => by simp
      rw [← hxs] at hxl
      have HX := Lib.hid hxs
      have HG := Lib.hid hget
      have HY := Lib.hid hgety
      have HE := Lib.hid (And.intro hxl (And.intro hyl hbl))
      clear hxs hget hgety hxl hyl hbl
      have HF : Hid (Below w1.heap.size w1 wc ∧ Fill wc X N 0 xs ∧ Fill wc Y N 0 (a.take N) ∧ Fill wc Z N 0 []) := by
        have h := HC.out.2.2.2.2.2.2
        exact ⟨h.1, h.2 X (by omega), h.2 Y (by omega), h.2 Z (by omega)⟩
      have HD : Hid (X ≠ Y ∧ X ≠ Z ∧ Y ≠ Z ∧ w1.heap.size ≤ X ∧ w1.heap.size ≤ Y ∧ w1.heap.size ≤ Z) := by
        have h := HC.out
        exact ⟨h.1, h.2.1, h.2.2.1, h.2.2.2.1, h.2.2.2.2.1, h.2.2.2.2.2.1⟩
      clear HC
      go_wp2
      go_loopw [26] (fun kv wr => ∃ k : Nat, kv = .int .i64 k ∧ k ≤ N ∧ Hid (Below w1.heap.size w1 wr ∧ Fill wr X N k xs ∧ Fill wr Y N k (a.take N) ∧ Fill wr Z N 0 [])) (fun kv _ => N - (intOf kv).toNat)
      case atStart => exact ⟨0, rfl, by omega, HF⟩
      case round =>
        obtain ⟨k, rfl, hk, HK⟩ := hrel
        by_cases hlt : k < N
        · obtain ⟨ad, rfl⟩ := h1b.addr (by omega)
          obtain ⟨bd, rfl⟩ := h2b.addr (by omega)
          have hka : k < a.length := by have := HL.out; omega
          have hkb : k < b.length := by have := HL.out; omega
          obtain ⟨hB, hFX, hFY, hFZ⟩ := HK.out
          obtain ⟨e1, e2, e3, e4, e5, e6⟩ := HD.out
          obtain ⟨hkx, hxk⟩ := HG.out k hka hkb hlt
          have hky : k < (a.take N).length := by rw [HE.out.2.1]; exact hlt
          have hyk := HY.out k hka hky
          have hab : ad.block < w1.heap.size := h1b.addr_lt ad rfl (by omega)
          have hbb : bd.block < w1.heap.size := h2b.addr_lt bd rfl (by omega)
          have hca : wr.cell? (ad.add k) = some (.int .u8 (a[k].toNat : Int)) := (hB.cell (by rw [block_of_add]; exact hab)).trans (h1b.cell hka)
          have hcb : wr.cell? (bd.add k) = some (.int .u8 (b[k].toNat : Int)) := (hB.cell (by rw [block_of_add]; exact hbb)).trans (h2b.cell hkb)
          have hxor : bits .xor .u8 (a[k].toNat : Int) (b[k].toNat : Int) = (xs[k].toNat : Int) := by
            rw [hxk, UInt8.toNat_xor]; exact u8_xor_nat _ _ a[k].toNat_lt b[k].toNat_lt
          obtain ⟨x0, hx0⟩ := Option.isSome_iff_exists.1 (hFX.cell hlt HE.out.1.symm)
          have hz0 := hFX.free k
          have hFX1 := hFX.store hlt hkx
          have hFY1 := (hFY.other ⟨X, k, none⟩ (.int .u8 (xs[k].toNat : Int)) (by simp; omega))
          have hFZ1 := (hFZ.other ⟨X, k, none⟩ (.int .u8 (xs[k].toNat : Int)) (by simp; omega))
          have hB1 := hB.setCell (p := ⟨X, k, none⟩) e4 (.int .u8 (xs[k].toNat : Int))
          have hca1 : (wr.setCell ⟨X, k, none⟩ (.int .u8 (xs[k].toNat : Int))).drew.cell? (ad.add k) = some (.int .u8 (a[k].toNat : Int)) := by
            rw [World.cell?_drew, hB1.cell (by rw [block_of_add]; exact hab)]; exact h1b.cell hka
          obtain ⟨y0, hy0⟩ := Option.isSome_iff_exists.1 (hFY1.cell hlt HE.out.2.1.symm)
          have hy1 : (wr.setCell ⟨X, k, none⟩ (.int .u8 (xs[k].toNat : Int))).drew.cell? ⟨Y, k, none⟩ = some y0 := hy0
          have hzy : (wr.setCell ⟨X, k, none⟩ (.int .u8 (xs[k].toNat : Int))).drew.frozen? ⟨Y, k, none⟩ = false := hFY1.free k
          have hFX2 := (hFX1.drew).other ⟨Y, k, none⟩ (.int .u8 (a[k].toNat : Int)) (by simp; omega)
          have hFY2 := (hFY1.drew).store hlt hky
          rw [hyk] at hFY2
          have hFZ2 := (hFZ1.drew).other ⟨Y, k, none⟩ (.int .u8 (a[k].toNat : Int)) (by simp; omega)
          have hB2 := hB1.drew.setCell (p := ⟨Y, k, none⟩) e5 (.int .u8 (a[k].toNat : Int))
          have HK2 : Hid (Below w1.heap.size w1 ((wr.setCell ⟨X, k, none⟩ (.int .u8 (xs[k].toNat : Int))).drew.setCell ⟨Y, k, none⟩ (.int .u8 (a[k].toNat : Int))) ∧ Fill ((wr.setCell ⟨X, k, none⟩ (.int .u8 (xs[k].toNat : Int))).drew.setCell ⟨Y, k, none⟩ (.int .u8 (a[k].toNat : Int))) X N (k + 1) xs ∧ Fill ((wr.setCell ⟨X, k, none⟩ (.int .u8 (xs[k].toNat : Int))).drew.setCell ⟨Y, k, none⟩ (.int .u8 (a[k].toNat : Int))) Y N (k + 1) (a.take N) ∧ Fill ((wr.setCell ⟨X, k, none⟩ (.int .u8 (xs[k].toNat : Int))).drew.setCell ⟨Y, k, none⟩ (.int .u8 (a[k].toNat : Int))) Z N 0 []) := ⟨hB2, hFX2, hFY2, hFZ2⟩
          have hi0 : (0 : Int) ≤ (k : Int) := by omega
          have hi1 : (k : Int) < (N : Int) := by omega
          have hi2 : (k : Int) < (n : Int) := by omega
          have hi3 : (k : Int) < (m : Int) := by omega
          have hi4 : k < n := by omega
          have hi5 : k < m := by omega
          clear hFX hFY hFZ hFX1 hFY1 hFZ1 hFX2 hFY2 hFZ2 hB hB1 hB2 hxk hyk
          go_wp2
          go_still_tail 12, (by kernel_rfl)
          all_goals go_wp2
          go_roundw
          case rel => exact ⟨k + 1, by go_num, by omega, HK2⟩
          case measure => simp [intOf]; omega
        · obtain rfl : k = N := by omega
          obtain ⟨hB, hFX, hFY, hFZ⟩ := HK.out
          have hEx := HE.out.1
          have hEy := HE.out.2.1
          have hEb := HE.out.2.2
          have hlen : k ≤ maxLen := by have := hma; unfold maxLen; omega
          have e0 : ∀ (l : List UInt8), l.length = k → bval (l.take k ++ List.replicate (k - k) 0) = bval l := fun l hl => by rw [List.take_of_length_le (by omega), Nat.sub_self]; simp
          have hbx : Bs wr (some ⟨X, 0, none⟩) k k xs := by
            unfold Fill at hFX
            rw [e0 xs hEx] at hFX
            have := bs_of_block hFX (by omega)
            rwa [hEx] at this
          have hby : Bs wr (some ⟨Y, 0, none⟩) k k (a.take k) := by
            unfold Fill at hFY
            rw [e0 _ hEy] at hFY
            have := bs_of_block hFY (by omega)
            rwa [hEy] at this
          have hbz : Bs wr (some ⟨Z, 0, none⟩) k k (List.replicate k 0) := by
            unfold Fill at hFZ
            rw [List.take_nil, List.nil_append, Nat.sub_zero] at hFZ
            have := bs_of_block hFZ (by simp; omega)
            rwa [List.length_replicate] at this
          have hbb0 : Bs w1 B k d (b.take k) := by
            have := Rd.upto h2b hNm
            rw [Nat.mul_one, bval_take] at this
            exact this
          have hbb : Bs wr B k d (b.take k) := Rd.below hbb0 hB
          have hord := Crc.order (a := a.take k) (b := b.take k) (by omega)
          rw [← HX.out, hEy] at hord
          have hltx : ∀ l, Crc.of l < 4294967296 := fun l => Nat.xor_lt_two_pow (n := 32) (by omega) (Crc.run_lt (by omega) l)
          have hv1 : bits .xor .u32 (Crc.of xs : Int) (Crc.of (List.replicate k 0) : Int) = ((Crc.of (a.take k) ^^^ Crc.of (b.take k) : Nat) : Int) := by rw [u32_xor_nat _ _ (hltx _) (hltx _), hord]
          have hv2 : bits .xor .u32 (Crc.of (a.take k) : Int) (Crc.of (b.take k) : Int) = ((Crc.of (a.take k) ^^^ Crc.of (b.take k) : Nat) : Int) := u32_xor_nat _ _ (hltx _) (hltx _)
          have c1 := fun w (hh : Bs w (some ⟨X, 0, none⟩) k k xs) => of_any xs _ k k w hh
          have c2 := fun w (hh : Bs w (some ⟨Z, 0, none⟩) k k (List.replicate k 0)) => of_any _ _ k k w hh
          have c3 := fun w (hh : Bs w (some ⟨Y, 0, none⟩) k k (a.take k)) => of_any _ _ k k w hh
          have c4 := fun w (hh : Bs w B k d (b.take k)) => of_any _ _ k d w hh
          generalize Crc.of xs = v1 at *
          generalize Crc.of (List.replicate k 0) = v2 at *
          generalize Crc.of (a.take k) = v3 at *
          generalize Crc.of (b.take k) = v4 at *
          generalize v3 ^^^ v4 = v5 at *
          have C1 := Lib.hid c1
          have C2 := Lib.hid c2
          have C3 := Lib.hid c3
          have C4 := Lib.hid c4
          have HW : Hid (Below w.heap.size w wr) := hb1.trans (hB.mono hb1.size)
          clear c1 c2 c3 c4 hord hltx e0 HK HE HY HG hEx hEy hEb hB hFX hFY hFZ hbb0
          have hk0 : (0 : Int) ≤ (k : Int) := by omega
          have hkd : (k : Int) ≤ (d : Int) := by have := hbb.2.1; omega
          go_wp2
          refine wp_region_quiet_below (by kernel_rfl) (by kernel_rfl) ?_
          repeat (go_big_quiet_step (first
            | (go_at_call_has 13 (Value.slice (some ⟨X, 0, none⟩) k k); exact Calls.regrown_of (C1.out _ (hbx.below (below_regrown _ _ _))))
            | (go_at_call_has 13 (Value.slice (some ⟨Z, 0, none⟩) k k); exact Calls.regrown_of (C2.out _ (hbz.below (below_regrown _ _ _))))
            | (go_at_call_has 13 (Value.slice (some ⟨Y, 0, none⟩) k k); exact Calls.regrown_of (C3.out _ (hby.below (below_regrown _ _ _))))
            | (go_at_call_has 13 (Value.slice B k d); exact Calls.regrown_of (C4.out _ (hbb.below (below_regrown _ _ _))))))
          refine wpQuiet_nil ?_
          rintro w9 hw9
          have HB9 : Hid (Below wr.heap.size wr w9) := by obtain ⟨p, rfl⟩ := hw9; exact below_regrown _ _ _
          clear hw9
          go_wp2
          go_ret
          exact ⟨rfl, HW.out.trans (HB9.out.mono HW.out.size)⟩
  · have d1 : decide ((1000 : Int) < N) = true := by simp; omega
    go_wp2
    go_ret
    exact ⟨rfl, hb1⟩
end Go.Proofs.Ytcoilgfjabnoeaa
