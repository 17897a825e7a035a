/- utf.Put: how a scalar is written. (Printed by gen_utfput.py.) -/
import Derived.Test.YtpoameaaoapiiaaDoorUw7
import Derived.Laws.OwnMore
namespace Go.Proofs.YtpoameaaoapiiaaDoor
open Go.RowKit

theorem infoB : (Tryd.prog.info? 5).map (fun i => (i.zero, i.size, i.bytes)) = some (some (.int .u8 0), 1, 1) := by kernel_rfl
theorem i64_and_nat (a b : Nat) (ha : a < 9223372036854775808) (hb : b < 9223372036854775808) : bits .and .i64 (a : Int) (b : Int) = ((a &&& b : Nat) : Int) := by
  have hx : a &&& b < 2 ^ 63 := Nat.and_lt_two_pow _ (by omega)
  show IntKind.i64.wrap ((BitVec.ofInt 64 (a : Int) &&& BitVec.ofInt 64 (b : Int)).toNat : Int) = _
  rw [BitVec.toNat_and, ofInt_u64 a (by omega), ofInt_u64 b (by omega), IntWalk.i64_in _ (by omega)]
theorem and_63a (q : Nat) (h : q < 9223372036854775808) : bits .and .i64 (q : Int) 63 = ((q % 64 : Nat) : Int) := by
  have := i64_and_nat q 63 h (by omega)
  rw [show ((63 : Nat) : Int) = 63 from rfl] at this
  rw [this, show (63 : Nat) = 2 ^ 6 - 1 from rfl, Nat.and_two_pow_sub_one_eq_mod]
theorem and_63 (n : Nat) (h : n < 1114112) : bits .and .i64 (n : Int) 63 = ((n % 64 : Nat) : Int) := and_63a n (by omega)
theorem and_63_1 (n : Nat) (h : n < 1114112) : bits .and .i64 ((n : Int) / 64) 63 = ((n / 64 % 64 : Nat) : Int) := by
  have := and_63a (n / 64) (by omega)
  rwa [show ((n / 64 : Nat) : Int) = (n : Int) / 64 by omega] at this
theorem and_63_2 (n : Nat) (h : n < 1114112) : bits .and .i64 ((n : Int) / 4096) 63 = ((n / 4096 % 64 : Nat) : Int) := by
  have := and_63a (n / 4096) (by omega)
  rwa [show ((n / 4096 : Nat) : Int) = (n : Int) / 4096 by omega] at this
theorem or_128 : ∀ (q : Nat), q < 64 → bits .or .i64 128 (q : Int) = ((128 + q : Nat) : Int) := by
  intro q hq
  have := (show ∀ q : Fin 64, bits .or .i64 128 (q.val : Int) = ((128 + q.val : Nat) : Int) by decide +kernel) ⟨q, hq⟩
  exact this
theorem or_lead0 (n : Nat) (h : n < 128) : bits .or .i64 0 (n : Int) = ((n : Nat) : Int) :=
  (show ∀ q : Fin 128, bits .or .i64 0 (q.val : Int) = ((q.val : Nat) : Int) by decide +kernel) ⟨n, h⟩
theorem or_lead1 (n : Nat) (h : n < 2048) : bits .or .i64 192 ((n : Int) / 64) = ((192 + n / 64 : Nat) : Int) := by
  have := (show ∀ q : Fin 32, bits .or .i64 192 (q.val : Int) = ((192 + q.val : Nat) : Int) by decide +kernel) ⟨n / 64, by omega⟩
  simp only at this
  rwa [show ((n / 64 : Nat) : Int) = (n : Int) / 64 by omega] at this
theorem or_lead2 (n : Nat) (h : n < 65536) : bits .or .i64 224 ((n : Int) / 4096) = ((224 + n / 4096 : Nat) : Int) := by
  have := (show ∀ q : Fin 16, bits .or .i64 224 (q.val : Int) = ((224 + q.val : Nat) : Int) by decide +kernel) ⟨n / 4096, by omega⟩
  simp only at this
  rwa [show ((n / 4096 : Nat) : Int) = (n : Int) / 4096 by omega] at this
theorem or_lead3 (n : Nat) (h : n < 1114112) : bits .or .i64 240 ((n : Int) / 262144) = ((240 + n / 262144 : Nat) : Int) := by
  have := (show ∀ q : Fin 8, bits .or .i64 240 (q.val : Int) = ((240 + q.val : Nat) : Int) by decide +kernel) ⟨n / 262144, by omega⟩
  simp only at this
  rwa [show ((n / 262144 : Nat) : Int) = (n : Int) / 262144 by omega] at this

set_option maxHeartbeats 1000000 in
set_option maxRecDepth 1000000 in
theorem utfput_1 (n : Nat) (w : World) (hF : Forms w) (hs : Utf.scalar n = true) (c1 : n < 128) :
    Calls Tryd.prog 32 #[.int .i64 n] w fun e w' => e = .returned (.tuple #[.string (str (Utf.enc n)), .bool true]) ∧ Below w.heap.size w w' := by
  obtain ⟨i0, hi, hz0, hz1, hz2⟩ := info_parts infoB
  have hen := enc_1 hs c1
  have hS := scalarI_nat n
  rw [hs] at hS
  generalize Utf.enc n = en at *
  have HE := Lib.hid hen
  clear hen hs
  have hG := hF.1
  have f0 := hF.2 0 (by omega)
  have f1 := hF.2 1 (by omega)
  have f2 := hF.2 2 (by omega)
  simp only [formsL, List.getD_cons_zero, List.getD_cons_succ] at f0 f1 f2
  have hv0 : n < 256 := by omega
  have ho0 : bits .or .i64 0 (n : Int) = ((n : Nat) : Int) := or_lead0 n (by omega)
  have hvals : ([.int .u8 (n : Int)] : List Value) = bval en := by rw [HE.out]; simp [bval]; omega
  have HV := Lib.hid hvals
  clear hvals 
  have hlen : en.length = 1 := by rw [HE.out]; rfl
  have HL := Lib.hid hlen
  clear hlen
  go_enter Tryd.func32, Tryd.ntmps32
  go_wp2_with fail
  refine (scalar_any _ _).mono ?_
  rintro e w' ⟨rfl, rfl⟩
  rw [hS]
  go_wp2
  refine wp_loop_rounds 2 ?_
  rw [rounds_succ]
  go_wp2
  go_region
  go_wp2
  have hB0 : Below w.heap.size w (((w.alloc (.cells #[.int .i64 128, .int .i64 0, .int .i64 0] 71)).alloc (.cells #[.int .u8 (n : Int)] 5)).drew) := (((Below.refl _ w).alloc (Nat.le_refl _) _).alloc (by simp) _).drew
  have hown0 := (World.ownsRow_lit (base := w.heap.size) (e := 5) (size := 1) (w.alloc (.cells #[.int .i64 128, .int .i64 0, .int .i64 0] 71)) #[.int .u8 (n : Int)] 1 (by simp) (by simp [maxLen]) rfl).drew
  rw [World.size_alloc] at hown0
  generalize ((w.alloc (.cells #[.int .i64 128, .int .i64 0, .int .i64 0] 71)).alloc (.cells #[.int .u8 (n : Int)] 5)).drew = W0 at hB0 hown0 ⊢
  refine wp_loop_rounds 2 ?_
  rw [rounds_succ]
  go_wp2
  have hrd := Rd.of_own hown0
  skip
  rw [show (_ : List Value) = bval en from HV.out] at hrd
  rw [run_convert_bs (P := Tryd.prog) _ 41 9 5 Tryd.underlying41 Tryd.underlying5 Tryd.underlying9 hrd]
  go_wp2
  go_returns
  exact ⟨rfl, hB0⟩
set_option maxHeartbeats 1000000 in
set_option maxRecDepth 1000000 in
theorem utfput_2 (n : Nat) (w : World) (hF : Forms w) (hs : Utf.scalar n = true) (c1 : ¬ n < 128) (c2 : n < 2048) :
    Calls Tryd.prog 32 #[.int .i64 n] w fun e w' => e = .returned (.tuple #[.string (str (Utf.enc n)), .bool true]) ∧ Below w.heap.size w w' := by
  obtain ⟨i0, hi, hz0, hz1, hz2⟩ := info_parts infoB
  have hen := enc_2 hs c1 c2
  have hS := scalarI_nat n
  rw [hs] at hS
  generalize Utf.enc n = en at *
  have HE := Lib.hid hen
  clear hen hs
  have hG := hF.1
  have f0 := hF.2 0 (by omega)
  have f1 := hF.2 1 (by omega)
  have f2 := hF.2 2 (by omega)
  have f3 := hF.2 3 (by omega)
  have f4 := hF.2 4 (by omega)
  have f5 := hF.2 5 (by omega)
  simp only [formsL, List.getD_cons_zero, List.getD_cons_succ] at f0 f1 f2 f3 f4 f5
  have hv0 : 192 + n / 64 < 256 := by omega
  have ho0 : bits .or .i64 192 ((n : Int) / 64) = ((192 + n / 64 : Nat) : Int) := or_lead1 n (by omega)
  have ha0 : bits .and .i64 ((n : Int)) 63 = ((n % 64 : Nat) : Int) := and_63 n (by omega)
  have hb0 : bits .or .i64 128 (((n % 64 : Nat) : Int)) = ((128 + n % 64 : Nat) : Int) := or_128 (n % 64) (by omega)
  have hw0 : 128 + n % 64 < 256 := by omega
  obtain ⟨v, Hv⟩ : ∃ v, v = 192 + n / 64 := ⟨_, rfl⟩
  rw [← Hv] at hv0 ho0
  obtain ⟨u0, Hu0⟩ : ∃ u0, u0 = n % 64 := ⟨_, rfl⟩
  rw [← Hu0] at ha0 hb0 hw0
  obtain ⟨x0, Hx0⟩ : ∃ x0, x0 = 128 + u0 := ⟨_, rfl⟩
  rw [← Hx0] at hb0 hw0
  have hvals : ([.int .u8 (v : Int), .int .u8 (x0 : Int)] : List Value) = bval en := by rw [HE.out, Hv, Hx0, Hu0]; simp [bval]; refine ⟨?_, ?_⟩ <;> omega
  have HV := Lib.hid hvals
  clear hvals Hv Hx0 Hu0
  have hlen : en.length = 2 := by rw [HE.out]; rfl
  have HL := Lib.hid hlen
  clear hlen
  go_enter Tryd.func32, Tryd.ntmps32
  go_wp2_with fail
  refine (scalar_any _ _).mono ?_
  rintro e w' ⟨rfl, rfl⟩
  rw [hS]
  go_wp2
  refine wp_loop_rounds 3 ?_
  rw [rounds_succ]
  go_wp2
  rw [rounds_succ]
  go_wp2
  go_region
  go_wp2
  have hB0 : Below w.heap.size w (((w.alloc (.cells #[.int .i64 2048, .int .i64 192, .int .i64 1] 71)).alloc (.cells #[.int .u8 (v : Int)] 5)).drew) := (((Below.refl _ w).alloc (Nat.le_refl _) _).alloc (by simp) _).drew
  have hown0 := (World.ownsRow_lit (base := w.heap.size) (e := 5) (size := 1) (w.alloc (.cells #[.int .i64 2048, .int .i64 192, .int .i64 1] 71)) #[.int .u8 (v : Int)] 1 (by simp) (by simp [maxLen]) rfl).drew
  rw [World.size_alloc] at hown0
  generalize ((w.alloc (.cells #[.int .i64 2048, .int .i64 192, .int .i64 1] 71)).alloc (.cells #[.int .u8 (v : Int)] 5)).drew = W0 at hB0 hown0 ⊢
  refine wp_loop_rounds 3 ?_
  rw [rounds_succ]
  go_wp2_with (first
    | (at_builtin
       refine wpList_append_rd _ rfl _ _ _ rfl w.heap.size 5 i0 _ 1 1 Tryd.underlying41 hi hz0 hz1 hz2 rfl (by omega) _ _ _ (hown0.alloc _) rfl _ 1 1 _ (Rd.new1 _ _ _) rfl (by simp [Value.oneCell']) (by unfold maxLen; omega) (by omega) (hB0.alloc hB0.size _).size 2 rfl _ rfl ?_
       intro A1 c1' w1 hown1 hg1 _
       have hB1 := below_append (hB0.alloc hB0.size _) (hown0.alloc _) hg1 (Nat.le_refl _) (hB0.alloc hB0.size _).size))
  rw [rounds_succ]
  go_wp2
  have hrd := Rd.of_own hown1
  simp only [List.cons_append, List.nil_append] at hrd
  rw [show (_ : List Value) = bval en from HV.out] at hrd
  rw [run_convert_bs (P := Tryd.prog) _ 41 9 5 Tryd.underlying41 Tryd.underlying5 Tryd.underlying9 hrd]
  go_wp2
  go_returns
  exact ⟨rfl, hB1⟩
set_option maxHeartbeats 1000000 in
set_option maxRecDepth 1000000 in
theorem utfput_3 (n : Nat) (w : World) (hF : Forms w) (hs : Utf.scalar n = true) (c1 : ¬ n < 128) (c2 : ¬ n < 2048) (c3 : n < 65536) :
    Calls Tryd.prog 32 #[.int .i64 n] w fun e w' => e = .returned (.tuple #[.string (str (Utf.enc n)), .bool true]) ∧ Below w.heap.size w w' := by
  obtain ⟨i0, hi, hz0, hz1, hz2⟩ := info_parts infoB
  have hen := enc_3 hs c1 c2 c3
  have hS := scalarI_nat n
  rw [hs] at hS
  generalize Utf.enc n = en at *
  have HE := Lib.hid hen
  clear hen hs
  have hG := hF.1
  have f0 := hF.2 0 (by omega)
  have f1 := hF.2 1 (by omega)
  have f2 := hF.2 2 (by omega)
  have f3 := hF.2 3 (by omega)
  have f4 := hF.2 4 (by omega)
  have f5 := hF.2 5 (by omega)
  have f6 := hF.2 6 (by omega)
  have f7 := hF.2 7 (by omega)
  have f8 := hF.2 8 (by omega)
  simp only [formsL, List.getD_cons_zero, List.getD_cons_succ] at f0 f1 f2 f3 f4 f5 f6 f7 f8
  have hv0 : 224 + n / 4096 < 256 := by omega
  have ho0 : bits .or .i64 224 ((n : Int) / 4096) = ((224 + n / 4096 : Nat) : Int) := or_lead2 n (by omega)
  have ha1 : bits .and .i64 ((n : Int) / 64) 63 = ((n / 64 % 64 : Nat) : Int) := and_63_1 n (by omega)
  have hb1 : bits .or .i64 128 (((n / 64 % 64 : Nat) : Int)) = ((128 + n / 64 % 64 : Nat) : Int) := or_128 (n / 64 % 64) (by omega)
  have hw1 : 128 + n / 64 % 64 < 256 := by omega
  have ha0 : bits .and .i64 ((n : Int)) 63 = ((n % 64 : Nat) : Int) := and_63 n (by omega)
  have hb0 : bits .or .i64 128 (((n % 64 : Nat) : Int)) = ((128 + n % 64 : Nat) : Int) := or_128 (n % 64) (by omega)
  have hw0 : 128 + n % 64 < 256 := by omega
  obtain ⟨v, Hv⟩ : ∃ v, v = 224 + n / 4096 := ⟨_, rfl⟩
  rw [← Hv] at hv0 ho0
  obtain ⟨u1, Hu1⟩ : ∃ u1, u1 = n / 64 % 64 := ⟨_, rfl⟩
  rw [← Hu1] at ha1 hb1 hw1
  obtain ⟨x1, Hx1⟩ : ∃ x1, x1 = 128 + u1 := ⟨_, rfl⟩
  rw [← Hx1] at hb1 hw1
  obtain ⟨u0, Hu0⟩ : ∃ u0, u0 = n % 64 := ⟨_, rfl⟩
  rw [← Hu0] at ha0 hb0 hw0
  obtain ⟨x0, Hx0⟩ : ∃ x0, x0 = 128 + u0 := ⟨_, rfl⟩
  rw [← Hx0] at hb0 hw0
  have hvals : ([.int .u8 (v : Int), .int .u8 (x1 : Int), .int .u8 (x0 : Int)] : List Value) = bval en := by rw [HE.out, Hv, Hx1, Hx0, Hu1, Hu0]; simp [bval]; refine ⟨?_, ?_, ?_⟩ <;> omega
  have HV := Lib.hid hvals
  clear hvals Hv Hx1 Hx0 Hu1 Hu0
  have hlen : en.length = 3 := by rw [HE.out]; rfl
  have HL := Lib.hid hlen
  clear hlen
  go_enter Tryd.func32, Tryd.ntmps32
  go_wp2_with fail
  refine (scalar_any _ _).mono ?_
  rintro e w' ⟨rfl, rfl⟩
  rw [hS]
  go_wp2
  refine wp_loop_rounds 4 ?_
  rw [rounds_succ]
  go_wp2
  rw [rounds_succ]
  go_wp2
  rw [rounds_succ]
  go_wp2
  go_region
  go_wp2
  have hB0 : Below w.heap.size w (((w.alloc (.cells #[.int .i64 65536, .int .i64 224, .int .i64 2] 71)).alloc (.cells #[.int .u8 (v : Int)] 5)).drew) := (((Below.refl _ w).alloc (Nat.le_refl _) _).alloc (by simp) _).drew
  have hown0 := (World.ownsRow_lit (base := w.heap.size) (e := 5) (size := 1) (w.alloc (.cells #[.int .i64 65536, .int .i64 224, .int .i64 2] 71)) #[.int .u8 (v : Int)] 1 (by simp) (by simp [maxLen]) rfl).drew
  rw [World.size_alloc] at hown0
  generalize ((w.alloc (.cells #[.int .i64 65536, .int .i64 224, .int .i64 2] 71)).alloc (.cells #[.int .u8 (v : Int)] 5)).drew = W0 at hB0 hown0 ⊢
  refine wp_loop_rounds 4 ?_
  rw [rounds_succ]
  go_wp2_with (first
    | (at_builtin
       refine wpList_append_rd _ rfl _ _ _ rfl w.heap.size 5 i0 _ 1 1 Tryd.underlying41 hi hz0 hz1 hz2 rfl (by omega) _ _ _ (hown0.alloc _) rfl _ 1 1 _ (Rd.new1 _ _ _) rfl (by simp [Value.oneCell']) (by unfold maxLen; omega) (by omega) (hB0.alloc hB0.size _).size 2 rfl _ rfl ?_
       intro A1 c1' w1 hown1 hg1 _
       have hB1 := below_append (hB0.alloc hB0.size _) (hown0.alloc _) hg1 (Nat.le_refl _) (hB0.alloc hB0.size _).size))
  rw [rounds_succ]
  go_wp2_with (first
    | (at_builtin
       refine wpList_append_rd _ rfl _ _ _ rfl w.heap.size 5 i0 _ 1 1 Tryd.underlying41 hi hz0 hz1 hz2 rfl (by omega) _ _ _ (hown1.alloc _) rfl _ 1 1 _ (Rd.new1 _ _ _) rfl (by simp [Value.oneCell']) (by unfold maxLen; omega) (by omega) (hB1.alloc hB1.size _).size 3 rfl _ rfl ?_
       intro A2 c2' w2 hown2 hg2 _
       have hB2 := below_append (hB1.alloc hB1.size _) (hown1.alloc _) hg2 (Nat.le_refl _) (hB1.alloc hB1.size _).size))
  rw [rounds_succ]
  go_wp2
  have hrd := Rd.of_own hown2
  simp only [List.cons_append, List.nil_append] at hrd
  rw [show (_ : List Value) = bval en from HV.out] at hrd
  rw [run_convert_bs (P := Tryd.prog) _ 41 9 5 Tryd.underlying41 Tryd.underlying5 Tryd.underlying9 hrd]
  go_wp2
  go_returns
  exact ⟨rfl, hB2⟩
set_option maxHeartbeats 1000000 in
set_option maxRecDepth 1000000 in
theorem utfput_4 (n : Nat) (w : World) (hF : Forms w) (hs : Utf.scalar n = true) (c1 : ¬ n < 128) (c2 : ¬ n < 2048) (c3 : ¬ n < 65536) (c4 : n < 1114112) :
    Calls Tryd.prog 32 #[.int .i64 n] w fun e w' => e = .returned (.tuple #[.string (str (Utf.enc n)), .bool true]) ∧ Below w.heap.size w w' := by
  obtain ⟨i0, hi, hz0, hz1, hz2⟩ := info_parts infoB
  have hen := enc_4 hs c1 c2 c3
  have hS := scalarI_nat n
  rw [hs] at hS
  generalize Utf.enc n = en at *
  have HE := Lib.hid hen
  clear hen hs
  have hG := hF.1
  have f0 := hF.2 0 (by omega)
  have f1 := hF.2 1 (by omega)
  have f2 := hF.2 2 (by omega)
  have f3 := hF.2 3 (by omega)
  have f4 := hF.2 4 (by omega)
  have f5 := hF.2 5 (by omega)
  have f6 := hF.2 6 (by omega)
  have f7 := hF.2 7 (by omega)
  have f8 := hF.2 8 (by omega)
  have f9 := hF.2 9 (by omega)
  have f10 := hF.2 10 (by omega)
  have f11 := hF.2 11 (by omega)
  simp only [formsL, List.getD_cons_zero, List.getD_cons_succ] at f0 f1 f2 f3 f4 f5 f6 f7 f8 f9 f10 f11
  have hv0 : 240 + n / 262144 < 256 := by omega
  have ho0 : bits .or .i64 240 ((n : Int) / 262144) = ((240 + n / 262144 : Nat) : Int) := or_lead3 n (by omega)
  have ha2 : bits .and .i64 ((n : Int) / 4096) 63 = ((n / 4096 % 64 : Nat) : Int) := and_63_2 n (by omega)
  have hb2 : bits .or .i64 128 (((n / 4096 % 64 : Nat) : Int)) = ((128 + n / 4096 % 64 : Nat) : Int) := or_128 (n / 4096 % 64) (by omega)
  have hw2 : 128 + n / 4096 % 64 < 256 := by omega
  have ha1 : bits .and .i64 ((n : Int) / 64) 63 = ((n / 64 % 64 : Nat) : Int) := and_63_1 n (by omega)
  have hb1 : bits .or .i64 128 (((n / 64 % 64 : Nat) : Int)) = ((128 + n / 64 % 64 : Nat) : Int) := or_128 (n / 64 % 64) (by omega)
  have hw1 : 128 + n / 64 % 64 < 256 := by omega
  have ha0 : bits .and .i64 ((n : Int)) 63 = ((n % 64 : Nat) : Int) := and_63 n (by omega)
  have hb0 : bits .or .i64 128 (((n % 64 : Nat) : Int)) = ((128 + n % 64 : Nat) : Int) := or_128 (n % 64) (by omega)
  have hw0 : 128 + n % 64 < 256 := by omega
  obtain ⟨v, Hv⟩ : ∃ v, v = 240 + n / 262144 := ⟨_, rfl⟩
  rw [← Hv] at hv0 ho0
  obtain ⟨u2, Hu2⟩ : ∃ u2, u2 = n / 4096 % 64 := ⟨_, rfl⟩
  rw [← Hu2] at ha2 hb2 hw2
  obtain ⟨x2, Hx2⟩ : ∃ x2, x2 = 128 + u2 := ⟨_, rfl⟩
  rw [← Hx2] at hb2 hw2
  obtain ⟨u1, Hu1⟩ : ∃ u1, u1 = n / 64 % 64 := ⟨_, rfl⟩
  rw [← Hu1] at ha1 hb1 hw1
  obtain ⟨x1, Hx1⟩ : ∃ x1, x1 = 128 + u1 := ⟨_, rfl⟩
  rw [← Hx1] at hb1 hw1
  obtain ⟨u0, Hu0⟩ : ∃ u0, u0 = n % 64 := ⟨_, rfl⟩
  rw [← Hu0] at ha0 hb0 hw0
  obtain ⟨x0, Hx0⟩ : ∃ x0, x0 = 128 + u0 := ⟨_, rfl⟩
  rw [← Hx0] at hb0 hw0
  have hvals : ([.int .u8 (v : Int), .int .u8 (x2 : Int), .int .u8 (x1 : Int), .int .u8 (x0 : Int)] : List Value) = bval en := by rw [HE.out, Hv, Hx2, Hx1, Hx0, Hu2, Hu1, Hu0]; simp [bval]; refine ⟨?_, ?_, ?_, ?_⟩ <;> omega
  have HV := Lib.hid hvals
  clear hvals Hv Hx2 Hx1 Hx0 Hu2 Hu1 Hu0
  have hlen : en.length = 4 := by rw [HE.out]; rfl
  have HL := Lib.hid hlen
  clear hlen
  have ht : decide ((1114112 : Int) ≤ (n : Int)) = false := decide_eq_false (by omega)
  clear c4
  go_enter Tryd.func32, Tryd.ntmps32
  go_wp2_with fail
  refine (scalar_any _ _).mono ?_
  rintro e w' ⟨rfl, rfl⟩
  rw [hS]
  go_wp2
  refine wp_loop_rounds 5 ?_
  rw [rounds_succ]
  go_wp2
  rw [rounds_succ]
  go_wp2
  rw [rounds_succ]
  go_wp2
  rw [rounds_succ]
  go_wp2
  go_region
  go_wp2
  have hB0 : Below w.heap.size w (((w.alloc (.cells #[.int .i64 1114112, .int .i64 240, .int .i64 3] 71)).alloc (.cells #[.int .u8 (v : Int)] 5)).drew) := (((Below.refl _ w).alloc (Nat.le_refl _) _).alloc (by simp) _).drew
  have hown0 := (World.ownsRow_lit (base := w.heap.size) (e := 5) (size := 1) (w.alloc (.cells #[.int .i64 1114112, .int .i64 240, .int .i64 3] 71)) #[.int .u8 (v : Int)] 1 (by simp) (by simp [maxLen]) rfl).drew
  rw [World.size_alloc] at hown0
  generalize ((w.alloc (.cells #[.int .i64 1114112, .int .i64 240, .int .i64 3] 71)).alloc (.cells #[.int .u8 (v : Int)] 5)).drew = W0 at hB0 hown0 ⊢
  refine wp_loop_rounds 5 ?_
  rw [rounds_succ]
  go_wp2_with (first
    | (at_builtin
       refine wpList_append_rd _ rfl _ _ _ rfl w.heap.size 5 i0 _ 1 1 Tryd.underlying41 hi hz0 hz1 hz2 rfl (by omega) _ _ _ (hown0.alloc _) rfl _ 1 1 _ (Rd.new1 _ _ _) rfl (by simp [Value.oneCell']) (by unfold maxLen; omega) (by omega) (hB0.alloc hB0.size _).size 2 rfl _ rfl ?_
       intro A1 c1' w1 hown1 hg1 _
       have hB1 := below_append (hB0.alloc hB0.size _) (hown0.alloc _) hg1 (Nat.le_refl _) (hB0.alloc hB0.size _).size))
  rw [rounds_succ]
  go_wp2_with (first
    | (at_builtin
       refine wpList_append_rd _ rfl _ _ _ rfl w.heap.size 5 i0 _ 1 1 Tryd.underlying41 hi hz0 hz1 hz2 rfl (by omega) _ _ _ (hown1.alloc _) rfl _ 1 1 _ (Rd.new1 _ _ _) rfl (by simp [Value.oneCell']) (by unfold maxLen; omega) (by omega) (hB1.alloc hB1.size _).size 3 rfl _ rfl ?_
       intro A2 c2' w2 hown2 hg2 _
       have hB2 := below_append (hB1.alloc hB1.size _) (hown1.alloc _) hg2 (Nat.le_refl _) (hB1.alloc hB1.size _).size))
  rw [rounds_succ]
  go_wp2_with (first
    | (at_builtin
       refine wpList_append_rd _ rfl _ _ _ rfl w.heap.size 5 i0 _ 1 1 Tryd.underlying41 hi hz0 hz1 hz2 rfl (by omega) _ _ _ (hown2.alloc _) rfl _ 1 1 _ (Rd.new1 _ _ _) rfl (by simp [Value.oneCell']) (by unfold maxLen; omega) (by omega) (hB2.alloc hB2.size _).size 4 rfl _ rfl ?_
       intro A3 c3' w3 hown3 hg3 _
       have hB3 := below_append (hB2.alloc hB2.size _) (hown2.alloc _) hg3 (Nat.le_refl _) (hB2.alloc hB2.size _).size))
  rw [rounds_succ]
  go_wp2
  have hrd := Rd.of_own hown3
  simp only [List.cons_append, List.nil_append] at hrd
  rw [show (_ : List Value) = bval en from HV.out] at hrd
  rw [run_convert_bs (P := Tryd.prog) _ 41 9 5 Tryd.underlying41 Tryd.underlying5 Tryd.underlying9 hrd]
  go_wp2
  go_returns
  exact ⟨rfl, hB3⟩
set_option maxHeartbeats 1000000 in
set_option maxRecDepth 100000 in
theorem utfput_0 (c : Int) (w : World) (hs : scalarI c = false) :
    Calls Tryd.prog 32 #[.int .i64 c] w fun e w' => e = .returned (.tuple #[.string (str []), .bool false]) ∧ Below w.heap.size w w' := by
  go_enter Tryd.func32, Tryd.ntmps32
  go_wp2_with fail
  refine (scalar_any _ _).mono ?_
  rintro e w' ⟨rfl, rfl⟩
  rw [hs]
  go_wp2
  go_returns
  exact ⟨rfl, Below.refl _ _⟩
theorem utfput_any (c : Int) (w : World) (hF : Forms w) : Calls Tryd.prog 32 #[.int .i64 c] w fun e w' =>
    e = .returned (.tuple #[.string (str (encI c)), .bool (scalarI c)]) ∧ Below w.heap.size w w' := by
  by_cases hs : scalarI c = true
  · have hs2 := hs
    rw [hs]
    rw [scalarI_eq, decide_eq_true_eq] at hs
    obtain ⟨n, rfl⟩ : ∃ n : Nat, c = n := ⟨c.toNat, by omega⟩
    rw [encI_nat]
    rw [scalarI_nat] at hs2
    by_cases c1 : n < 128
    · exact utfput_1 n w hF hs2 c1
    · by_cases c2 : n < 2048
      · exact utfput_2 n w hF hs2 c1 c2
      · by_cases c3 : n < 65536
        · exact utfput_3 n w hF hs2 c1 c2 c3
        · exact utfput_4 n w hF hs2 c1 c2 c3 (by omega)
  · rw [Bool.not_eq_true] at hs
    rw [encI_none hs, hs]
    exact utfput_0 c w hs
end Go.Proofs.YtpoameaaoapiiaaDoor
