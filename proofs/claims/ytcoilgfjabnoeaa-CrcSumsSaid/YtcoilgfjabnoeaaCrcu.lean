/- crc.tables: the closure that fills the table. -/
import Derived.Test.YtcoilgfjabnoeaaCrcs
import Derived.Test.YtcoilgfjabnoeaaCrct
import Derived.Laws.IdiomCopy
namespace Go.Proofs.Ytcoilgfjabnoeaa
open Go.RowKit

/-- The table's first k entries as values. -/
def tabv (k : Nat) : List Value := (List.range k).map fun (i : Nat) => .int .u32 (Crc.bits8 i : Int)
theorem tabv_length (k : Nat) : (tabv k).length = k := by simp [tabv]
theorem tabv_succ (k : Nat) : tabv (k + 1) = tabv k ++ [.int .u32 (Crc.bits8 k : Int)] := by simp [tabv, List.range_succ]
theorem tabv_get (k j : Nat) (h : j < (tabv k).length) : (tabv k)[j] = .int .u32 (Crc.bits8 j : Int) := by simp [tabv]
theorem setCells_snoc (b : Nat) (v : Value) : ∀ (xs : List Value) (o : Nat) (w : World), w.setCells b o (xs ++ [v]) = (w.setCells b o xs).setCell ⟨b, o + xs.length, none⟩ v
  | [], o, w => rfl
  | x :: xs, o, w => by
    simp only [List.cons_append, World.setCells, List.length_cons]
    rw [setCells_snoc b v xs (o + 1), show o + 1 + xs.length = o + (xs.length + 1) by omega]
theorem size_setCells (b : Nat) : ∀ (xs : List Value) (o : Nat) (w : World), (w.setCells b o xs).heap.size = w.heap.size
  | [], _, _ => rfl
  | x :: xs, o, w => by simp only [World.setCells]; rw [size_setCells b xs]; simp
theorem below_setCells {B b : Nat} (hB : B ≤ b) {a : World} : ∀ (xs : List Value) (o : Nat) (w : World), Below B a w → Below B a (w.setCells b o xs)
  | [], _, _, h => h
  | _ :: xs, o, _, h => below_setCells hB xs (o + 1) _ (h.setCell hB _)
/-- The world with the table's first k entries laid. -/
def setT (w : World) (b o k : Nat) : World := w.setCells b o (tabv k)
theorem setT_zero (w : World) (b o : Nat) : setT w b o 0 = w := rfl
theorem setT_succ (w : World) (b o k : Nat) : setT w b o (k + 1) = (setT w b o k).setCell ⟨b, o + k, none⟩ (.int .u32 (Crc.bits8 k : Int)) := by
  unfold setT
  rw [tabv_succ, setCells_snoc, tabv_length]
theorem setT_cell_out {w : World} {b o k : Nat} {x : Addr} (h : x.block ≠ b ∨ x.off < o ∨ o + k ≤ x.off) : (setT w b o k).cell? x = w.cell? x :=
  World.cell?_setCells_out b _ _ _ _ (fun h1 _ => by rw [tabv_length]; rcases h with h | h | h; exact absurd h1 h; exact .inl h; exact .inr h)
theorem setT_cell_in {w : World} {b o k : Nat} (h : ∀ j, j < k → (w.cell? ⟨b, o + j, none⟩).isSome = true) {j : Nat} (hj : j < k) : (setT w b o k).cell? ⟨b, o + j, none⟩ = some (.int .u32 (Crc.bits8 j : Int)) := by
  have := World.cell?_setCells_in b (tabv k) o w (fun i hi => h i (by rwa [tabv_length] at hi)) j (by rwa [tabv_length])
  rw [tabv_get] at this
  exact this
theorem setT_frozen (w : World) (b o k : Nat) (x : Addr) : (setT w b o k).frozen? x = w.frozen? x := World.frozen?_setCells b _ _ _ _
theorem setT_size (w : World) (b o k : Nat) : (setT w b o k).heap.size = w.heap.size := size_setCells b _ _ _

theorem and_one (n : Nat) (hn : n < 4294967296) : bits .and .u32 (n : Int) 1 = ((n % 2 : Nat) : Int) := by
  have := u32_and_nat n 1 hn (by omega)
  rw [Nat.and_one_is_mod] at this
  exact this

set_option maxHeartbeats 1000000 in
set_option maxRecDepth 100000 in
theorem get1_any (pl : Addr) (b off : Nat) (w : World) (hp : w.cell? pl = some (.pointer (some ⟨b, off, none⟩))) (hpb : pl.block ≠ b)
    (hc : Hid (∀ j, j < 256 → (w.cell? ⟨b, off + 3 + j, none⟩).isSome = true)) (hf : Hid (∀ j, j < 256 → w.frozen? ⟨b, off + 3 + j, none⟩ = false)) :
    Calls Try.prog 52 #[.pointer (some pl)] w fun e w' => e = .returned (.tuple #[]) ∧ w' = setT w b (off + 3) 256 := by
  have HP := Lib.hid hp
  clear hp
  go_enter Try.func52, Try.ntmps52
  go_wp2
  go_loopw [3] (fun iv wr => ∃ i : Nat, iv = .int .i64 i ∧ i ≤ 256 ∧ wr = setT w b (off + 3) i) (fun iv _ => 256 - (intOf iv).toNat)
  case atStart => exact ⟨0, rfl, by omega, rfl⟩
  case round =>
    obtain ⟨i, rfl, hi, rfl⟩ := hrel
    by_cases hlt : i < 256
    · have hp2 : (setT w b (off + 3) i).cell? pl = some (.pointer (some ⟨b, off, none⟩)) := (setT_cell_out (.inl hpb)).trans HP.out
      have hz : (setT w b (off + 3) i).frozen? ⟨b, off + 3 + i, none⟩ = false := (setT_frozen _ _ _ _ _).trans (hf.out i hlt)
      obtain ⟨u, hu0⟩ := Option.isSome_iff_exists.1 (hc.out i hlt)
      have hu : (setT w b (off + 3) i).cell? ⟨b, off + 3 + i, none⟩ = some u := (setT_cell_out (.inr (.inr (Nat.le_refl _)))).trans hu0
      have HS : Hid (setT w b (off + 3) (i + 1) = (setT w b (off + 3) i).setCell ⟨b, off + 3 + i, none⟩ (.int .u32 (Crc.bits8 i : Int))) := setT_succ _ _ _ _
      clear hu0
      generalize setT w b (off + 3) i = w1 at *
      go_wp2
      go_loop [2, 8] (fun nv kv => ∃ n k : Nat, nv = .int .u32 n ∧ kv = .int .i64 k ∧ k ≤ 8 ∧ n < 4294967296 ∧ Hid (iter (8 - k) n = Crc.bits8 i)) (fun _ kv => 8 - (intOf kv).toNat)
      case atStart => exact ⟨i, 0, rfl, rfl, by omega, by omega, rfl⟩
      case round =>
        obtain ⟨n, k, rfl, rfl, hk, hn, HI⟩ := hrel
        by_cases hlk : k < 8
        · have hs : 8 - k = (8 - (k + 1)) + 1 := by omega
          have h1 := HI.out
          rw [hs] at h1
          have HJ : Hid (iter (8 - (k + 1)) (Crc.bit n) = Crc.bits8 i) := h1
          clear h1 hs HI
          have hbl := Crc.bit_lt hn
          have ha := and_one n hn
          rcases Nat.mod_two_eq_zero_or_one n with h2 | h2
          · have he := bit_even' h2
            rw [he] at HJ hbl
            rw [h2] at ha
            have hx : bits .xor .u32 ((n : Int) / 2) 0 = ((n / 2 : Nat) : Int) := by
              have := u32_xor_nat (n / 2) 0 (by omega) (by omega)
              rw [Nat.xor_zero] at this
              rwa [show ((n / 2 : Nat) : Int) = (n : Int) / 2 by omega] at this ⊢
            clear he h2
            go_wp2
            go_round
            case rel => exact ⟨n / 2, k + 1, by go_num, by go_num, by omega, hbl, HJ⟩
            case measure => simp [intOf]; omega
          · have he := bit_odd h2
            rw [he] at HJ hbl
            rw [h2] at ha
            have hx : bits .xor .u32 ((n : Int) / 2) 3988292384 = ((n / 2 ^^^ 3988292384 : Nat) : Int) := by
              have := u32_xor_nat (n / 2) 3988292384 (by omega) (by omega)
              rwa [show ((n / 2 : Nat) : Int) = (n : Int) / 2 by omega] at this
            generalize n / 2 ^^^ 3988292384 = m at *
            clear he h2
            go_wp2
            go_round
            case rel => exact ⟨m, k + 1, by go_num, by go_num, by omega, hbl, HJ⟩
            case measure => simp [intOf]; omega
        · have hk8 : Hid (k = 8) := by unfold Hid; omega
          have h1 := HI.out
          rw [hk8.out] at h1
          have hn8 : n = Crc.bits8 i := h1
          clear h1 HI hk8
          have HN := Lib.hid hn8
          clear hn8
          go_wp2
          go_roundw
          case rel => exact ⟨i + 1, by go_num, by omega, by rw [HS.out, HN.out]⟩
          case measure => simp [intOf]; omega
    · have hi8 : Hid (i = 256) := by unfold Hid; omega
      go_wp2
      go_end0
      exact ⟨rfl, by rw [hi8.out]⟩
end Go.Proofs.Ytcoilgfjabnoeaa
