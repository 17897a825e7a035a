/- CrcSums: the walk. -/
import Derived.Test.YtcoilgfjabnoeaaCl1
import Derived.Test.YtcoilgfjabnoeaaCrca
import Derived.Test.YtcoilgfjabnoeaaApp
namespace Go.Proofs.Ytcoilgfjabnoeaa
open Go.RowKit

theorem regrown_same {P : Program} {f : FuncId} {args : Array Value} {w : World} {d : Nat} {os : Array Obj} {v : Value}
    (h : Calls P f args (Go.Sort.grow (redrawn w d) os) fun e w' => e = .returned v ∧ Go.Sort.grow (redrawn w d) os = w') : Calls P f args (Go.Sort.grow (redrawn w d) os) fun e w'' => e = .returned v ∧ ∃ p : Regrown, w'' = Go.Sort.grow (redrawn w p.d) p.os :=
  h.mono fun _ _ ⟨he, hb⟩ => ⟨he, ⟨d, os⟩, hb.symm⟩
theorem info_u32 : (Try.prog.info? 24).map (·.size) = some 1 := by kernel_rfl
theorem run_index_tab (i : Nat) (hi : i < 256) (w : World) : (Instr.index 32 (.agg (tabv 256).toArray) (.int .u8 (i : Int))).run Try.prog w = .ok (.int .u32 (Crc.bits8 i : Int)) w := by
  obtain ⟨j0, hj, hs⟩ := Option.map_eq_some_iff.1 info_u32
  have hu := Try.underlying24
  have hl : (tabv 256)[i]? = some (.int .u32 (Crc.bits8 i : Int)) := by rw [List.getElem?_eq_getElem (by rw [tabv_length]; exact hi), tabv_get]
  have h3 : ¬ 256 ≤ i := by omega
  simp [Instr.index, run_underlying Try.underlying32, asIntOf, h3, sizeOf, typeInfo, hj, hs, part, hl, go_sem]

set_option maxHeartbeats 1000000 in
theorem value_cell (b n v : Nat) (w : World) (hn : n < 4294967296) (hv : 4294967295 ^^^ n = v) (h1 : w.cell? ⟨b, 0, none⟩ = some (.int .u32 (n : Int))) : Calls Try.prog 16 #[.pointer (some ⟨b, 0, none⟩)] w fun e w' => e = .returned (.int .u32 (v : Int)) ∧ w = w' := by
  have hx : bits .xor .u32 IntKind.u32.max (n : Int) = (v : Int) := by rw [← hv]; exact u32_xor_nat 4294967295 n (by omega) hn
  have hsg : IntKind.u32.signed = false := rfl
  clear hv
  go_enter Try.func16, Try.ntmps16
  go_wp2
  go_ret
  exact ⟨rfl, rfl⟩

set_option maxHeartbeats 4000000 in
set_option maxRecDepth 100000 in
theorem crcsums_any (l : List UInt8) (A : Option Addr) (n c a i : Nat) (w : World) (hb : Bs w A n c l) (ha : a < 65536) (hi : i < 256) :
    Calls Try.prog 4 #[.slice A n c, .int .u16 a, .int .u8 i] w fun e w' => e = .returned (.bool true) ∧ Below w.heap.size w w' := by
  have ha1 : (a : Int) ≤ 100000 := by omega
  have hi1 : (i : Int) < 256 := by omega
  clear ha
  by_cases h : n ≤ 2000
  · have d1 : decide ((2000 : Int) < n) = false := by simp; omega
    have hl := hb.len
    have hcap := hb.2.1
    have HL := Lib.hid hl
    clear hl
    obtain ⟨k, hk⟩ : ∃ k, k = a % (n + 1) := ⟨_, rfl⟩
    have hkm : (a : Int) % ((n : Int) + 1) = (k : Int) := by rw [hk, Int.natCast_emod, Int.natCast_add]; rfl
    have hkn : k ≤ n := by have := Nat.mod_lt a (show n + 1 > 0 by omega); omega
    clear hk
    have hk0 : (0 : Int) ≤ (k : Int) := by omega
    have hk1 : (k : Int) ≤ (n : Int) := by omega
    have hk2 : (k : Int) ≤ (c : Int) := by omega
    go_enter Try.func4, Try.ntmps4
    go_wp2_with fail
    refine (cwakes_any w).mono ?_
    rintro e w1 ⟨rfl, hb1⟩
    have hbs1 := hb.below hb1
    go_wp2_with fail
    refine (new_any w1).mono ?_
    rintro e w2 ⟨rfl, hS2, hb2⟩
    obtain ⟨S, hS⟩ : ∃ S, S = w1.heap.size := ⟨_, rfl⟩
    rw [← hS] at hS2 hb2
    rw [← hS]
    have hbs2 : Bs w2 A n c l := Rd.below hbs1 (by rw [← hS]; exact hb2)
    have hB2 : Below w.heap.size w w2 := hb1.trans (hb2.mono (by rw [hS]; exact hb1.size))
    have hwS : w.heap.size ≤ S := by rw [hS]; exact hb1.size
    have haddr : ∀ ad, A = some ad → 0 < n → ad.block < S := by rw [hS]; exact hbs1.addr_lt
    have hbt2 : Bs w2 A k c (l.take k) := by
      have := Rd.upto hbs2 hkn
      rw [Nat.mul_one, bval_take] at this
      exact this
    have hSs : S < w2.heap.size := hS2.tb.size
    have H2 := Lib.hid hS2
    have HA := Lib.hid haddr
    have HS := Lib.hid hS
    clear hS hS2 haddr hbs1 hb1 hb2
    go_wp2_with fail
    refine (add_any S 4294967295 false (l.take k) A k c w2 H2.out (by omega) hbt2 (fun ad e h0 => HA.out ad e (by omega))).mono ?_
    rintro e w3 ⟨rfl, hS3, hb3⟩
    have hr1 : Crc.run 4294967295 (l.take k) < 4294967296 := Crc.run_lt (by omega) _
    have hbs3 : Bs w3 A n c l := ⟨hbs2.1, hbs2.2.1, hbs2.2.2.1, fun h0 => by
      obtain ⟨ad, e, h1, h2⟩ := hbs2.2.2.2 h0
      exact ⟨ad, e, Nat.lt_of_lt_of_le h1 hb3.size, fun j u hu => (hb3.cell (by rw [block_of_add]; exact HA.out ad e h0)).trans (h2 j u hu)⟩⟩
    have hB3 := hB2.trans (hb3.mono hwS)
    have hv3 : 4294967295 ^^^ Crc.run 4294967295 (l.take k) = Crc.of (l.take k) := rfl
    have H3 := Lib.hid hS3
    have V3 := Lib.hid hv3
    clear hS3 hv3 hb3 hbs2 hbt2
    go_wp2_with fail
    refine (value_cell S _ _ w3 hr1 V3.out H3.out.num).mono ?_
    rintro e w3 ⟨rfl, rfl⟩
    obtain ⟨A2, hsl, hbt3, hA2⟩ := cut_bytes hbs3 hkn
    go_wp2_with fail
    refine (add_any S _ true (l.drop k) A2 (n - k) (c - k) w3 H3.out hr1 hbt3 (fun a2 e h0 => by obtain ⟨ad, e2, e3⟩ := hA2 a2 e; rw [e3]; exact HA.out ad e2 (by omega))).mono ?_
    rintro e w4 ⟨rfl, hS4, hb4⟩
    rw [← Crc.run_append, List.take_append_drop] at hS4
    have hbs4 : Bs w4 A n c l := ⟨hbs3.1, hbs3.2.1, hbs3.2.2.1, fun h0 => by
      obtain ⟨ad, e, h1, h2⟩ := hbs3.2.2.2 h0
      exact ⟨ad, e, Nat.lt_of_lt_of_le h1 hb4.size, fun j u hu => (hb4.cell (by rw [block_of_add]; exact HA.out ad e h0)).trans (h2 j u hu)⟩⟩
    have hB4 := hB3.trans (hb4.mono hwS)
    have hbt4 : Bs w4 A k c (l.take k) := by
      have := Rd.upto hbs4 hkn
      rw [Nat.mul_one, bval_take] at this
      exact this
    have hSb := hS4.tb.size
    have hnum := hS4.num
    have V4 : Hid (4294967295 ^^^ Crc.run 4294967295 l = Crc.of l) := rfl
    have V5 : Hid (Crc.run 4294967295 l < 4294967296) := Crc.run_lt (by omega) _
    have K1 : Hid (∀ w', Below w4.heap.size w4 w' → w'.cell? ⟨S, 0, none⟩ = some (.int .u32 (Crc.run 4294967295 l : Int))) := fun w' hw => (hw.cell (by exact hSb)).trans hnum
    have hix := run_index_tab i hi
    clear hS4 hb4 hbs3 hbt3 hA2 hsl hnum
    have C1 : Hid (∀ w, Bs w A n c l → Calls Try.prog 13 #[.slice A n c] w fun e w' => e = .returned (.int .u32 (Crc.of l : Int)) ∧ Below w.heap.size w w') := fun w hh => of_any l A n c w hh
    have C2 : Hid (∀ w, Bs w A n c l → Calls Try.prog 17 #[.slice A n c] w fun e w' => e = .returned (.int .u32 (Crc.of l : Int)) ∧ w = w') := fun w hh => refof_of l A n c w hh
    generalize Crc.of l = v at *
    have e1 : ((v : Int) == (v : Int)) = true := beq_self_eq_true _
    have e2 : ((Crc.of (l.take k) : Int) == (Crc.of (l.take k) : Int)) = true := beq_self_eq_true _
    have e3 : ((Crc.bits8 i : Int) == (Crc.bits8 i : Int)) = true := beq_self_eq_true _
    go_wp2
    refine wp_region_quiet_below (by kernel_rfl) (by kernel_rfl) ?_
    repeat (go_big_quiet_step (first
      | (go_at_call_has 13 (Value.slice A n c); exact Calls.regrown_of (C1.out _ (hbs4.below (below_regrown _ _ _))))
      | (go_at_call_has 17 (Value.slice A n c); exact regrown_same (C2.out _ (hbs4.below (below_regrown _ _ _))))
      | (go_at_call_has 17 (Value.slice A k c); exact regrown_same (refof_of (l.take k) A k c _ (hbt4.below (below_regrown _ _ _))))
      | (go_at_call 16; exact regrown_same (value_cell S _ _ _ V5.out V4.out (K1.out _ (below_regrown _ _ _))))
      | (go_at_call 18; exact Calls.regrown_of (table_any _))
      | (go_at_call 19; exact regrown_same (entry_any i _ hi))))
    refine wpQuiet_nil ?_
    rintro w9 hw9
    have HB9 : Hid (Below w4.heap.size w4 w9) := by obtain ⟨p, rfl⟩ := hw9; exact below_regrown _ _ _
    clear hw9
    go_wp2
    go_ret
    exact ⟨rfl, hB4.trans (HB9.out.mono hB4.size)⟩
  · have d1 : decide ((2000 : Int) < n) = true := by simp; omega
    go_enter Try.func4, Try.ntmps4
    go_wp2_with fail
    refine (cwakes_any w).mono ?_
    rintro e w1 ⟨rfl, hb1⟩
    go_wp2
    go_ret
    exact ⟨rfl, hb1⟩
end Go.Proofs.Ytcoilgfjabnoeaa
