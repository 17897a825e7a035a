/- Varints: what varint.Put, Size, Get, List and tabulariumref04.Put, Get, All compute. -/
import Derived.Test.YtcoilgfjabnoeaaChecked
import Derived.Test.YtcoilgfjabnoeaaBase
import Derived.Test.YtcoilgfjabnoeaaVar
import Derived.Lib.Strings
import Derived.Lib.Slices
import Derived.Lib.Small
import Derived.Lib.Walk
import Derived.Lib.BitFns
namespace Go.Proofs.Ytcoilgfjabnoeaa
open Go.RowKit

theorem tab_get (i : Int) (h0 : 0 ≤ i) (h1 : i ≤ 255) (hp : i.toNat < Lib.len8tab.size) : (Lib.len8tab[i.toNat]'hp).toNat = Lib.bitLen i.toNat := by
  have h := Lib.len8_of i h0 h1
  unfold Lib.len8 at h
  rw [getElem?_pos Lib.len8tab i.toNat hp] at h
  simp only [Option.getD_some] at h
  omega
theorem len64_a (x y : Int) (d k : Nat) (h0 : 0 ≤ y) (h1 : y ≤ 255) (e : y.toNat = x.toNat / d) (s : Lib.bitLen x.toNat = k + Lib.bitLen (x.toNat / d)) (hk : k ≤ 56) (hp : y.toNat < Lib.len8tab.size) :
    wrap64 (k + wrap64 (Lib.len8tab[y.toNat]'hp).toNat) = Lib.bitLen x.toNat := by
  have l := Lib.bitLen_le8' y h0 h1
  rw [tab_get y h0 h1, s, ← e]
  generalize Lib.bitLen y.toNat = b at *
  rw [IntWalk.wrap64_in (b : Int) (by omega), IntWalk.wrap64_in _ (by omega)]
  omega
theorem len64_0 (y : Int) (h0 : 0 ≤ y) (h1 : y ≤ 255) (hp : y.toNat < Lib.len8tab.size) :
    wrap64 (wrap64 (Lib.len8tab[y.toNat]'hp).toNat) = Lib.bitLen y.toNat := by
  have l := Lib.bitLen_le8' y h0 h1
  rw [tab_get y h0 h1]
  generalize Lib.bitLen y.toNat = b at *
  rw [IntWalk.wrap64_in (b : Int) (by omega), IntWalk.wrap64_in _ (by omega)]
set_option maxHeartbeats 400000 in
set_option maxRecDepth 100000 in
theorem len64_any (x : Int) (w : World) (h0 : 0 ≤ x) (h1 : x ≤ 18446744073709551615) :
    Calls Try.prog 57 #[.int .u64 x] w fun e w' => e = .returned (.int .i64 (Lib.bitLen x.toNat)) ∧ w = w' := by
  have hsz := Lib.len8tab_size
  go_enter Try.func57, Try.ntmps57
  go_wp2
  all_goals (go_ret; refine ⟨congrArg Ending.returned (congrArg (Value.int IntKind.i64) ?_), rfl⟩)
  all_goals first
    | exact len64_a x (x / 4294967296 / 65536 / 256) 72057594037927936 56 (by omega) (by omega) (by omega) (Lib.bitLen_shift56 x.toNat (by omega) (by omega)) (by omega) _
    | exact len64_a x (x / 4294967296 / 65536) 281474976710656 48 (by omega) (by omega) (by omega) (Lib.bitLen_shift48 x.toNat (by omega) (by omega)) (by omega) _
    | exact len64_a x (x / 4294967296 / 256) 1099511627776 40 (by omega) (by omega) (by omega) (Lib.bitLen_shift40 x.toNat (by omega) (by omega)) (by omega) _
    | exact len64_a x (x / 4294967296) 4294967296 32 (by omega) (by omega) (by omega) (Lib.bitLen_shift32 x.toNat (by omega) (by omega)) (by omega) _
    | exact len64_a x (x / 65536 / 256) 16777216 24 (by omega) (by omega) (by omega) (Lib.bitLen_shift24 x.toNat (by omega) (by omega)) (by omega) _
    | exact len64_a x (x / 65536) 65536 16 (by omega) (by omega) (by omega) (Lib.bitLen_shift16 x.toNat (by omega) (by omega)) (by omega) _
    | exact len64_a x (x / 256) 256 8 (by omega) (by omega) (by omega) (Lib.bitLen_shift8 x.toNat (by omega) (by omega)) (by omega) _
    | exact len64_0 x (by omega) (by omega) _

theorem bitLen_small : ∀ n : Fin 128, Lib.bitLen n.val ≤ 7 := by decide +kernel
theorem bitLen_pos (n : Nat) (h : 0 < n) (h2 : n < 2 ^ 64) : 1 ≤ Lib.bitLen n := by
  rw [Lib.bitLen_half n (by omega) h2]; omega
theorem bitLen_le64 (n : Nat) : Lib.bitLen n ≤ 64 := by
  have : ∀ k m, Lib.bitLenAux k m ≤ k := by
    intro k
    induction k with
    | zero => intro m; simp [Lib.bitLenAux]
    | succ k ih => intro m; unfold Lib.bitLenAux; split; omega; have := ih (m / 2); omega
  exact this 64 n
theorem size_bits : ∀ (k n : Nat), n < 2 * 128 ^ k → n < 2 ^ 64 → max ((Lib.bitLen n + 6) / 7) 1 = (Var.putF k n).length
  | 0, n, h, _ => by
    have hs := bitLen_small ⟨n, by simp at h; omega⟩
    simp only at hs
    simp [Var.putF]; omega
  | k + 1, n, h, h2 => by
    by_cases hn : n < 128
    · have hs := bitLen_small ⟨n, hn⟩
      simp only at hs
      simp [Var.putF, hn]; omega
    · have ih := size_bits k (n / 128) (by rw [Nat.pow_succ] at h; omega) (by omega)
      have hb := Lib.bitLen_shift 7 n (by omega) h2
      have hp := bitLen_pos (n / 128) (by omega) (by omega)
      have e : n / 2 ^ 7 = n / 128 := by simp
      rw [e] at hb
      simp only [Var.putF, hn, if_false, List.length_cons, ← ih]
      omega

set_option maxHeartbeats 400000 in
theorem size_any (n : Nat) (w : World) (h : n < 18446744073709551616) :
    Calls Try.prog 53 #[.int .u64 n] w fun e w' => e = .returned (.int .i64 ((Var.put n).length)) ∧ w = w' := by
  have hs := size_bits 9 n (by simpa using h) (by omega)
  have HS := Lib.hid hs
  clear hs
  go_enter Try.func53, Try.ntmps53
  go_wp2_with fail
  refine (len64_any n _ (by omega) (by omega)).mono ?_
  rintro e w' ⟨rfl, rfl⟩
  have hb : Lib.bitLen n ≤ 64 := bitLen_le64 n
  go_wp2
  go_ret
  refine ⟨congrArg Ending.returned (congrArg (Value.int IntKind.i64) ?_), rfl⟩
  have := HS.out
  unfold Var.put
  omega

theorem bval_ofNat (m : Nat) (h : m < 256) : bval [UInt8.ofNat m] = [.int .u8 (m : Int)] := by
  simp only [bval, List.map_cons, List.map_nil, Var.toNat_ofNat h]
theorem or128_byte : ∀ n : Fin 256, bits .or .u8 (n.val : Int) 128 = ((n.val % 128 + 128 : Nat) : Int) := by decide +kernel
theorem or128 (m : Nat) : bits .or .u8 ((m : Int) % 256) 128 = (m : Int) % 128 + 128 := by
  have h := or128_byte ⟨m % 256, by omega⟩
  simp only at h
  have e : ((m % 256 : Nat) : Int) = (m : Int) % 256 := by omega
  rw [e] at h
  rw [h]
  omega
theorem infoU8 : (Try.prog.info? 5).map (fun i => (i.zero, i.size, i.bytes)) = some (some (.int .u8 0), 1, 1) := by kernel_rfl

set_option maxRecDepth 1000000 in
set_option maxHeartbeats 400000 in
theorem put_any (n : Nat) (w : World) (h : n < 18446744073709551616) :
    Calls Try.prog 43 #[.int .u64 n] w (Owned w 5 (bval (Var.put n))) := by
  obtain ⟨i0, hi, hz0, hz1, hz2⟩ := info_parts infoU8
  have hlen := Var.put_length n
  go_enter Try.func43, Try.ntmps43
  go_wp2_with (first
    | (go_at_call 53; refine (size_any n _ h).mono ?_; rintro e w' ⟨rfl, rfl⟩)
    | (at_make; refine wpList_make_own _ rfl _ _ 22 rfl w.heap.size 5 i0 (.int .u8 0) 1 Try.underlying22 hi hz0 hz1 _ _ _ (Var.put n).length rfl rfl rfl (by rw [hz2]; omega) (by unfold maxLen; omega) (Nat.le_refl _) ?_; intro w1 hown1 hg1))
  go_loopw [0, 3] (fun nv v wr => ∃ (m k : Nat) (p : List UInt8) (A : Option Addr) (c : Nat), nv = .int .u64 m ∧ m < 18446744073709551616 ∧ Hid (p ++ Var.putF k m = Var.put n ∧ m < 2 * 128 ^ k ∧ p.length + k = 9) ∧ p.length ≤ 9 ∧ v = .slice A p.length c ∧
    wr.ownsRow w.heap.size 5 1 (.slice A p.length c) p.length (bval p) ∧ Below w.heap.size w wr) (fun nv _ _ => (intOf nv).toNat)
  case atStart => exact ⟨n, 9, [], _, _, rfl, h, ⟨rfl, by simpa using h, rfl⟩, by simp, rfl, hown1, (Below.refl _ _).grown hg1 (Nat.le_refl _) (by simp)⟩
  case round =>
    obtain ⟨m, k, p, A, c, rfl, hm, HP, hp9, rfl, hown, hbel⟩ := hrel
    by_cases hlt : m < 128
    · go_wp2_with (first
        | (at_builtin
           refine wpList_append_rd _ rfl _ _ _ rfl w.heap.size 5 i0 _ 1 1 Try.underlying22 hi hz0 hz1 hz2 rfl (by omega) _ _ _ (hown.alloc _) rfl _ _ _ _ (Rd.new1 _ _ _) rfl (by simp [Value.oneCell']) (by unfold maxLen; omega) (by omega) (hbel.alloc hbel.size _).size _ rfl _ rfl ?_
           intro A2 c2 w2 hown2 hg2 _))
      go_ret
      refine ⟨A2, p.length + 1, c2, rfl, ?_, below_append (hbel.alloc hbel.size _) (hown.alloc _) hg2 (Nat.le_refl _) (hbel.alloc hbel.size _).size⟩
      have h1 := HP.out.1
      rw [Var.putF_small k m hlt] at h1
      rw [← h1, bval_append, bval_ofNat m (by omega)]
      exact hown2
    · obtain ⟨h1, h2, h3⟩ := HP.out
      have hk : 0 < k := by
        rcases Nat.eq_zero_or_pos k with h0 | h0
        · subst h0; simp at h2; omega
        · exact h0
      obtain ⟨k, rfl⟩ : ∃ j, k = j + 1 := ⟨k - 1, by omega⟩
      rw [Var.putF_large k m (by omega)] at h1
      have HP2 : Hid ((p ++ [UInt8.ofNat (m % 128 + 128)]) ++ Var.putF k (m / 128) = Var.put n ∧ m / 128 < 2 * 128 ^ k ∧ (p ++ [UInt8.ofNat (m % 128 + 128)]).length + k = 9) := by
        refine ⟨by rw [← h1]; simp, ?_, by simp; omega⟩
        rw [Nat.pow_succ] at h2; omega
      have h9 : p.length ≤ 8 := by omega
      have hbits : bits .or .u8 ((m : Int) % 256) 128 = (m : Int) % 128 + 128 := or128 m
      clear h1 h2 h3 HP
      go_wp2_with (first
        | (at_builtin
           refine wpList_append_rd _ rfl _ _ _ rfl w.heap.size 5 i0 _ 1 1 Try.underlying22 hi hz0 hz1 hz2 rfl (by omega) _ _ _ (hown.alloc _) rfl _ _ _ _ (Rd.new1 _ _ _) rfl (by simp [Value.oneCell']) (by unfold maxLen; omega) (by omega) (hbel.alloc hbel.size _).size _ rfl _ rfl ?_
           intro A2 c2 w2 hown2 hg2 _))
      go_roundw
      case rel =>
        refine ⟨m / 128, k, p ++ [UInt8.ofNat (m % 128 + 128)], A2, c2, by go_num, by omega, HP2, by simp; omega, by simp, ?_, below_append (hbel.alloc hbel.size _) (hown.alloc _) hg2 (Nat.le_refl _) (hbel.alloc hbel.size _).size⟩
        rw [bval_append, bval_ofNat _ (by omega), List.length_append]
        exact hown2
      case measure => simp [intOf]; omega
end Go.Proofs.Ytcoilgfjabnoeaa
