/- crc: New, Add. -/
import Derived.Test.YtcoilgfjabnoeaaCrcv
import Derived.StillTailTactics
namespace Go.Proofs.Ytcoilgfjabnoeaa
open Go.RowKit

/-- A sum at block b: its number (its bits turned), its table made or not. -/
structure Sm (w : World) (b n : Nat) (d : Bool) : Prop where
  num : w.cell? ⟨b, 0, none⟩ = some (.int .u32 (n : Int))
  free : w.frozen? ⟨b, 0, none⟩ = false
  tb : Tb w b 1 d

theorem zero89_size : Try.zeroCells89.size = 260 := by kernel_rfl
theorem zero89_1 : Try.zeroCells89[1]? = some (.int .u32 0) := by kernel_rfl
theorem zero89_2 : Try.zeroCells89[2]? = some (.int .i32 0) := by kernel_rfl

theorem tb_of_row {w : World} {b off : Nat} {cs : Array Value} {t : TypeId} (h : w.heap[b]? = some (.cells cs t (0, 0))) (h0 : cs[off]? = some (.int .u32 0)) (h1 : cs[off + 1]? = some (.int .i32 0)) (hs : off + 259 ≤ cs.size) : Tb w b off false := by
  refine ⟨(Array.getElem?_eq_some_iff.1 h).1, fun j _ => frozen_of_row _ _ _ _ _ h, ?_, ?_, fun j hj => ?_, fun h => by cases h⟩
  · rw [cell_of_row _ _ _ _ _ _ h, h0]; rfl
  · rw [cell_of_row _ _ _ _ _ _ h, h1]
  · rw [cell_of_row _ _ _ _ _ _ h]; simp; omega

set_option maxHeartbeats 1000000 in
set_option maxRecDepth 100000 in
theorem new_any (w : World) : Calls Try.prog 14 #[] w fun e w' => e = .returned (.pointer (some ⟨w.heap.size, 0, none⟩)) ∧ Sm w' w.heap.size 4294967295 false ∧ Below w.heap.size w w' := by
  go_enter Try.func14, Try.ntmps14
  go_wp2
  go_ret
  have hh := heap_alloc_new w (.cells (Try.zeroCells89.setIfInBounds 0 (.int .u32 4294967295)) 89)
  refine ⟨rfl, ⟨?_, frozen_of_row _ _ _ _ _ hh, ?_⟩, (Below.refl _ _).alloc (Nat.le_refl _) _⟩
  · rw [cell_of_row _ _ _ _ _ _ hh]; simp
  · refine tb_of_row hh ?_ ?_ ?_
    · rw [Array.getElem?_setIfInBounds_ne (by omega)]; exact zero89_1
    · rw [Array.getElem?_setIfInBounds_ne (by omega)]; exact zero89_2
    · simp

theorem get_sum (b : Nat) (d : Bool) (w : World) (h : Tb w b 1 d) : Calls Try.prog 42 #[.pointer (some ⟨b, 1, none⟩)] w fun e w' => e = .returned (.pointer (some ⟨b, 4, none⟩)) ∧ Got w w' b 1 := get_any b 1 d w h

theorem tb_set {w : World} {b n : Nat} (h : Tb w b 1 true) : Tb (w.setCell ⟨b, 0, none⟩ (.int .u32 (n : Int))) b 1 true := by
  have ho : ∀ o, 0 < o → (w.setCell ⟨b, 0, none⟩ (.int .u32 (n : Int))).cell? ⟨b, o, none⟩ = w.cell? ⟨b, o, none⟩ := fun o ho => World.cell?_setCell_other _ _ _ _ (by simp <;> omega)
  refine ⟨by simpa using h.size, fun j hj => by rw [World.frozen?_setCell]; exact h.free j hj, (ho _ (by omega)).trans h.flag, (ho _ (by omega)).trans h.mu, fun j hj => by rw [ho _ (by omega)]; exact h.there j hj, fun _ j hj => by rw [ho _ (by omega)]; exact h.made rfl j hj⟩
theorem tb_drew {w : World} {b n : Nat} {d : Bool} (h : Tb w b n d) : Tb w.drew b n d := ⟨h.size, h.free, h.flag, h.mu, h.there, h.made⟩

set_option maxHeartbeats 1000000 in
set_option maxRecDepth 100000 in
theorem add_any (b n0 : Nat) (d : Bool) (l : List UInt8) (A : Option Addr) (m c : Nat) (w : World) (hS : Sm w b n0 d) (hn0 : n0 < 4294967296) (hb : Bs w A m c l) (hA : ∀ ad, A = some ad → 0 < m → ad.block < b) :
    Calls Try.prog 15 #[.pointer (some ⟨b, 0, none⟩), .slice A m c] w fun e w' => e = .returned (.pointer (some ⟨b, 0, none⟩)) ∧ Sm w' b (Crc.run n0 l) true ∧ Below b w w' := by
  have hm := hb.len
  have hmax := hb.max
  have HM := Lib.hid hm
  have HS := Lib.hid hS
  have HA := Lib.hid hA
  clear hm hS hA
  go_enter Try.func15, Try.ntmps15
  go_wp2_with (go_at_call 42; refine (get_sum b d _ HS.out.tb).mono ?_; rintro e w1 ⟨rfl, hg⟩)
  have HW : Hid (w1.cell? ⟨b, 0, none⟩ = some (.int .u32 (n0 : Int)) ∧ w1.frozen? ⟨b, 0, none⟩ = false ∧ Tb w1 b 1 true ∧ Below b w w1) := ⟨(hg.same 0 (by omega)).trans HS.out.num, (hg.free 0).trans HS.out.free, hg.tb, hg.below⟩
  clear hg
  go_loopw [14] (fun kv wr => ∃ k n : Nat, kv = .int .i64 k ∧ k ≤ m ∧ n < 4294967296 ∧ Hid (wr.cell? ⟨b, 0, none⟩ = some (.int .u32 (n : Int)) ∧ wr.frozen? ⟨b, 0, none⟩ = false ∧ Tb wr b 1 true ∧ Below b w wr) ∧ Hid (Crc.run n (l.drop k) = Crc.run n0 l)) (fun kv _ => m - (intOf kv).toNat)
  case atStart => exact ⟨0, n0, rfl, by omega, hn0, HW, rfl⟩
  case round =>
    obtain ⟨k, n, rfl, hk, hn, HX, HI⟩ := hrel
    obtain ⟨hn1, hn2, hT, hB⟩ := HX.out
    by_cases hlt : k < m
    · obtain ⟨ad, rfl⟩ := hb.addr (by omega)
      have hkl : k < l.length := by have := HM.out; omega
      have hab : ad.block < b := HA.out ad rfl (by omega)
      have hc0 : wr.cell? (ad.add k) = some (.int .u8 (l[k].toNat : Int)) := (hB.cell (by rw [block_of_add]; exact hab)).trans (hb.cell hkl)
      have h1 := HI.out
      rw [List.drop_eq_getElem_cons hkl] at h1
      have hby := l[k].toNat_lt
      simp only [Crc.run] at h1
      generalize l[k].toNat = q at *
      rw [Crc.step_table n q (by omega)] at h1
      have hxq : bits .xor .u8 ((n : Int) % 256) (q : Int) = (((n ^^^ q) % 256 : Nat) : Int) := by
        have := u8_xor_nat (n % 256) q (by omega) (by omega)
        rw [show ((n % 256 : Nat) : Int) = (n : Int) % 256 by omega] at this
        rw [this, show (256 : Nat) = 2 ^ 8 from rfl, Nat.xor_mod_two_pow, Nat.mod_eq_of_lt (a := q) (by omega)]
      have hw8 : IntKind.u8.wrap (n : Int) = (n : Int) % 256 := rfl
      have htab := hT.made rfl ((n ^^^ q) % 256) (Nat.mod_lt _ (by omega))
      have hlt8 := Crc.bits8_lt (n := (n ^^^ q) % 256) (by omega)
      have hxs : bits .xor .u32 ((n : Int) / 256) (Crc.bits8 ((n ^^^ q) % 256) : Int) = ((n / 256 ^^^ Crc.bits8 ((n ^^^ q) % 256) : Nat) : Int) := by
        have := u32_xor_nat (n / 256) _ (by omega) hlt8
        rwa [show ((n / 256 : Nat) : Int) = (n : Int) / 256 by omega] at this
      have hl2 : n / 256 ^^^ Crc.bits8 ((n ^^^ q) % 256) < 2 ^ 32 := Nat.xor_lt_two_pow (by omega) hlt8
      have hix : (n ^^^ q) % 256 < 256 := Nat.mod_lt _ (by omega)
      rw [show 1 + 3 = 4 from rfl] at htab
      generalize Crc.bits8 ((n ^^^ q) % 256) = t at *
      generalize (n ^^^ q) % 256 = j at *
      generalize n / 256 ^^^ t = n' at *
      have HJ : Hid (Crc.run n' (l.drop (k + 1)) = Crc.run n0 l) := h1
      have HT := Lib.hid hT
      have HB := Lib.hid hB
      clear h1 HI hT hB HX
      have hj0 : (0 : Int) ≤ (j : Int) := by omega
      have hj1 : (j : Int) < 256 := by omega
      go_wp2
      go_still_tail 20, (by kernel_rfl)
      all_goals go_wp2
      go_roundw
      case rel =>
        refine ⟨k + 1, n', by go_num, by omega, hl2, ⟨?_, ?_, tb_drew (tb_set HT.out), (HB.out.setCell (by exact Nat.le_refl b) _).drew⟩, HJ⟩
        · rw [World.cell?_drew]; exact World.cell?_setCell_same _ _ _ hn1
        · rw [World.frozen?_drew, World.frozen?_setCell]; exact hn2
      case measure => simp [intOf]; omega
    · have hk2 : Hid (k = m) := by unfold Hid; omega
      have h1 := HI.out
      rw [List.drop_eq_nil_of_le (by rw [hk2.out, HM.out]; exact Nat.le_refl _)] at h1
      have HR : Hid (n = Crc.run n0 l) := h1
      clear h1 HI
      go_wp2
      go_ret
      exact ⟨rfl, ⟨by rw [← HR.out]; exact hn1, hn2, hT⟩, hB⟩

set_option maxHeartbeats 1000000 in
theorem value_any (b n : Nat) (d : Bool) (w : World) (hn : n < 4294967296) (hS : Sm w b n d) : Calls Try.prog 16 #[.pointer (some ⟨b, 0, none⟩)] w fun e w' => e = .returned (.int .u32 ((4294967295 ^^^ n : Nat) : Int)) ∧ w = w' := by
  have h1 := hS.num
  have hx : bits .xor .u32 IntKind.u32.max (n : Int) = ((4294967295 ^^^ n : Nat) : Int) := u32_xor_nat 4294967295 n (by omega) hn
  have hsg : IntKind.u32.signed = false := rfl
  generalize 4294967295 ^^^ n = y at *
  go_enter Try.func16, Try.ntmps16
  go_wp2
  go_ret
  exact ⟨rfl, rfl⟩

theorem Bs.addr_lt {w : World} {A : Option Addr} {n c : Nat} {l : List UInt8} (h : Bs w A n c l) : ∀ ad, A = some ad → 0 < n → ad.block < w.heap.size := fun ad e hm => by
  obtain ⟨ad', e', h1, _⟩ := h.2.2.2 hm
  rw [e] at e'; cases e'; exact h1

set_option maxHeartbeats 1000000 in
theorem of_any (l : List UInt8) (A : Option Addr) (m c : Nat) (w : World) (hb : Bs w A m c l) :
    Calls Try.prog 13 #[.slice A m c] w fun e w' => e = .returned (.int .u32 (Crc.of l : Int)) ∧ Below w.heap.size w w' := by
  go_enter Try.func13, Try.ntmps13
  go_wp2_with fail
  refine (new_any w).mono ?_
  rintro e w1 ⟨rfl, hS, hB⟩
  have HS := Lib.hid hS
  clear hS
  go_wp2_with fail
  refine (add_any w.heap.size 4294967295 false l A m c w1 HS.out (by omega) (hb.below hB) hb.addr_lt).mono ?_
  rintro e w2 ⟨rfl, hS2, hB2⟩
  have HS2 := Lib.hid hS2
  clear hS2
  go_wp2_with fail
  refine (value_any w.heap.size _ true w2 (Crc.run_lt (by omega) l) HS2.out).mono ?_
  rintro e w3 ⟨rfl, rfl⟩
  go_wp2
  go_ret
  exact ⟨rfl, hB.trans hB2⟩

/-- The document's sum, spelled as ours. -/
theorem refof_of (l : List UInt8) (A : Option Addr) (m c : Nat) (w : World) (hb : Bs w A m c l) : Calls Try.prog 17 #[.slice A m c] w fun e w' => e = .returned (.int .u32 (Crc.of l : Int)) ∧ w = w' := by
  have h := refof_any l A m c w hb
  have e : (4294967295 - (Crc.run 4294967295 l : Int)) = (Crc.of l : Int) := by
    have h1 := Crc.run_lt (n := 4294967295) (by omega) l
    rw [Crc.of_eq]
    omega
  rw [e] at h
  exact h
end Go.Proofs.Ytcoilgfjabnoeaa
