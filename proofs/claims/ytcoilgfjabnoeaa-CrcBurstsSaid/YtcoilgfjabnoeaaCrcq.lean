/- CRC-32 in plain Lean: the rest, and bursts. No program in sight. -/
import Derived.Test.YtcoilgfjabnoeaaCrcp
namespace Go.Proofs.Ytcoilgfjabnoeaa.Crc

/-- The lowest bytes of a number, the lowest one first. -/
def leb : Nat → Nat → List UInt8
  | 0, _ => []
  | k + 1, n => UInt8.ofNat (n % 256) :: leb k (n / 256)
theorem leb_length : ∀ (k n : Nat), (leb k n).length = k
  | 0, _ => rfl
  | k + 1, n => by simp [leb, leb_length k]
theorem ofNat_toNat {n : Nat} (h : n < 256) : (UInt8.ofNat n).toNat = n := by simp; omega
/-- The number of bytes, the lowest one first. -/
def num : List UInt8 → Nat
  | [] => 0
  | c :: l => c.toNat + 256 * num l
/-- So many bits' steps. -/
def bits : Nat → Nat → Nat
  | 0, n => n
  | k + 1, n => bits k (bit n)
theorem bits_add (a b n : Nat) : bits (a + b) n = bits b (bits a n) := by
  induction a generalizing n with
  | zero => rw [Nat.zero_add]; rfl
  | succ a ih => rw [Nat.succ_add]; exact ih _
theorem bits_eight (n : Nat) : bits 8 n = bits8 n := rfl
theorem split_add (c h : Nat) (hc : c < 256) : c + 256 * h = (256 * h) ^^^ c := by
  have := split8 (c + 256 * h)
  rwa [show (c + 256 * h) / 256 = h by omega, show (c + 256 * h) % 256 = c by omega] at this
/-- The sum's state behind bytes, by the bytes' number. -/
theorem run_num (l : List UInt8) (n : Nat) : run n l = bits (8 * l.length) (n ^^^ num l) := by
  induction l generalizing n with
  | nil => simp [run, num, bits]
  | cons c l ih =>
    have hc := c.toNat_lt
    rw [show 8 * (c :: l).length = 8 + 8 * l.length by simp; omega, bits_add, bits_eight]
    simp only [run, num]
    rw [ih, split_add _ _ hc, Nat.xor_comm (256 * num l), ← Nat.xor_assoc, bits8_xor (n ^^^ c.toNat), bits8_high]
theorem bit_zero : bit 0 = 0 := rfl
theorem bits_zero (k : Nat) : bits k 0 = 0 := by
  induction k with
  | zero => rfl
  | succ k ih => exact ih
theorem bit_ne {n : Nat} (h : n < 4294967296) (h0 : n ≠ 0) : bit n ≠ 0 := by
  unfold bit
  intro h1
  have h2 : n / 2 = n % 2 * 3988292384 := by
    have := congrArg (· ^^^ (n % 2 * 3988292384)) h1
    simp only [Nat.xor_assoc, Nat.xor_self, Nat.xor_zero, Nat.zero_xor] at this
    exact this
  rcases Nat.mod_two_eq_zero_or_one n with h3 | h3 <;> rw [h3] at h2 <;> omega
theorem bits_ne (k : Nat) {n : Nat} (h : n < 4294967296) (h0 : n ≠ 0) : bits k n ≠ 0 := by
  induction k generalizing n with
  | zero => exact h0
  | succ k ih => exact ih (bit_lt h) (bit_ne h h0)
theorem bits_shift (k n : Nat) : bits k (2 ^ k * n) = n := by
  induction k with
  | zero => simp [bits]
  | succ k ih =>
    simp only [bits]
    rw [Nat.pow_succ, Nat.mul_comm (2 ^ k), Nat.mul_assoc, bit_even, ih]
theorem num_lt (l : List UInt8) : num l < 2 ^ (8 * l.length) := by
  induction l with
  | nil => simp [num]
  | cons c l ih =>
    have hc := c.toNat_lt
    simp only [num, List.length_cons]
    rw [show 8 * (l.length + 1) = 8 * l.length + 8 by omega, Nat.pow_add]
    omega
theorem num_leb : ∀ (k n : Nat), n < 2 ^ (8 * k) → num (leb k n) = n
  | 0, n, h => by simp at h; subst h; rfl
  | k + 1, n, h => by
    simp only [leb, num]
    rw [ofNat_toNat (Nat.mod_lt _ (by omega)), num_leb k (n / 256) (by
      rw [show 8 * (k + 1) = 8 * k + 8 by omega, Nat.pow_add] at h; omega)]
    omega
theorem num_inj : ∀ (a b : List UInt8), a.length = b.length → num a = num b → a = b
  | [], [], _, _ => rfl
  | c :: a, d :: b, h, e => by
    have hc := c.toNat_lt
    have hd := d.toNat_lt
    simp only [num] at e
    rw [num_inj a b (by simpa using h) (by omega), UInt8.toNat_inj.1 (show c.toNat = d.toNat by omega)]
theorem num_append (a b : List UInt8) : num (a ++ b) = num a + 2 ^ (8 * a.length) * num b := by
  induction a with
  | nil => simp [num]
  | cons c a ih =>
    simp only [List.cons_append, num, ih, List.length_cons]
    rw [show 8 * (a.length + 1) = 8 + 8 * a.length by omega, Nat.pow_add, Nat.mul_add, Nat.mul_assoc]
    omega
/-- Bytes, and their sum. -/
def sealed (l : List UInt8) : List UInt8 := l ++ leb 4 (of l)
theorem sealed_length (l : List UInt8) : (sealed l).length = l.length + 4 := by simp [sealed, leb_length]
theorem of_lt (l : List UInt8) : of l < 4294967296 := Nat.xor_lt_two_pow (n := 32) (by omega) (run_lt (by omega) l)
/-- The sum of sealed bytes is one and the same number. -/
theorem rest (l : List UInt8) : of (sealed l) = 558161692 := by
  have hx : run (run 4294967295 l) (leb 4 (of l)) = bits 32 4294967295 := by
    rw [run_num, leb_length, num_leb 4 _ (of_lt l)]
    unfold of
    rw [Nat.xor_comm 4294967295, ← Nat.xor_assoc, Nat.xor_self, Nat.zero_xor]
  have h0 : 4294967295 ^^^ bits 32 4294967295 = 558161692 := by decide +kernel
  rw [show of (sealed l) = 4294967295 ^^^ run 4294967295 (sealed l) from rfl, sealed, run_append, hx, h0]
theorem num_xor : ∀ (a b : List UInt8), a.length = b.length → num (List.zipWith (· ^^^ ·) a b) = num a ^^^ num b
  | [], [], _ => rfl
  | c :: a, d :: b, h => by
    have hc := c.toNat_lt
    have hd := d.toNat_lt
    simp only [List.zipWith_cons_cons, num]
    rw [num_xor a b (by simpa using h), split_add _ _ (c ^^^ d).toNat_lt, split_add _ _ hc, split_add _ _ hd, UInt8.toNat_xor]
    have e : 256 * (num a ^^^ num b) = (256 * num a) ^^^ (256 * num b) := by
      apply Nat.eq_of_testBit_eq
      intro i
      simp only [show (256 : Nat) = 2 ^ 8 from rfl, Nat.testBit_xor, Nat.testBit_two_pow_mul]
      by_cases h8 : 8 ≤ i <;> simp [h8]
    rw [e]
    rw [Nat.xor_assoc, Nat.xor_assoc, ← Nat.xor_assoc c.toNat, Nat.xor_comm c.toNat (256 * num b), Nat.xor_assoc (256 * num b)]
  | [], _ :: _, h => by simp at h
  | _ :: _, [], h => by simp at h
/-- Two unlike ones that differ by a burst are not both sealed. -/
theorem burst {p q : List UInt8} {at' v : Nat} (hl : p.length = q.length) (hv : v < 4294967296) (hat : at' ≤ 8 * (sealed p).length) (hx : num (sealed q) = num (sealed p) ^^^ (2 ^ at' * v)) : p = q := by
  have hlen : (sealed p).length = (sealed q).length := by rw [sealed_length, sealed_length, hl]
  have h1 := of_xor hlen
  rw [rest, rest, Nat.xor_self, run_num, Nat.zero_xor, num_xor _ _ hlen, hx, ← Nat.xor_assoc, Nat.xor_self, Nat.zero_xor] at h1
  rw [show (List.zipWith (· ^^^ ·) (sealed p) (sealed q)).length = (sealed p).length by simp [hlen]] at h1
  by_cases h0 : v = 0
  · subst h0
    rw [Nat.mul_zero, Nat.xor_zero] at hx
    have := num_inj _ _ hlen hx.symm
    have h2 := congrArg (List.take p.length) this
    unfold sealed at h2
    rw [List.take_left] at h2
    rw [hl, List.take_left] at h2
    exact h2
  · exfalso
    rw [show 8 * (sealed p).length = at' + (8 * (sealed p).length - at') by omega, bits_add, bits_shift] at h1
    exact bits_ne _ hv h0 h1.symm
/-- A bit turned in a number that is cut: the next one of a burst. -/
theorem burst_bit (b at' n k : Nat) : (2 ^ at' * (b % 2 ^ (k + 1))) % 2 ^ n = ((2 ^ at' * (b % 2 ^ k)) % 2 ^ n) ^^^ (if b / 2 ^ k % 2 = 1 ∧ at' + k < n then 2 ^ (at' + k) else 0) := by
  apply Nat.eq_of_testBit_eq
  intro i
  have hb : b.testBit k = decide (b / 2 ^ k % 2 = 1) := by rw [Nat.testBit_eq_decide_div_mod_eq]
  simp only [Nat.testBit_xor, Nat.testBit_mod_two_pow, Nat.testBit_two_pow_mul]
  by_cases hi : i < n
  · by_cases ha : at' ≤ i
    · obtain ⟨j, rfl⟩ : ∃ j, i = at' + j := ⟨i - at', by omega⟩
      simp only [Nat.add_sub_cancel_left]
      by_cases hjk : j = k
      · subst hjk
        by_cases h2 : b / 2 ^ j % 2 = 1 <;> simp [hi, hb, h2]
      · by_cases hlt : j < k
        · have h3 : j < k + 1 := by omega
          split
          · have hne : ¬ k = j := by omega
            rw [Nat.testBit_two_pow]; simp [hi, hlt, h3, hne]
          · simp [hi, hlt, h3]
        · have h3 : ¬ j < k + 1 := by omega
          split
          · have hne : ¬ k = j := by omega
            rw [Nat.testBit_two_pow]; simp [hlt, h3, hne]
          · simp [hlt, h3]
    · split
      · rw [Nat.testBit_two_pow]; simp [ha]; omega
      · simp [ha]
  · split
    · rw [Nat.testBit_two_pow]; simp [hi]; omega
    · simp [hi]
/-- A bit turned in a list. -/
def flip : List UInt8 → Nat → List UInt8
  | [], _ => []
  | c :: l, i => if i < 8 then (c ^^^ UInt8.ofNat (2 ^ i)) :: l else c :: flip l (i - 8)
theorem flip_length : ∀ (l : List UInt8) (i : Nat), (flip l i).length = l.length
  | [], _ => rfl
  | c :: l, i => by unfold flip; split <;> simp [flip_length]
theorem flip_set : ∀ (l : List UInt8) (i : Nat) (h : i / 8 < l.length), flip l i = l.set (i / 8) (l[i / 8] ^^^ UInt8.ofNat (2 ^ (i % 8)))
  | c :: l, i, h => by
    unfold flip
    by_cases h8 : i < 8
    · have e1 : i / 8 = 0 := by omega
      have e2 : i % 8 = i := by omega
      rw [if_pos h8]
      simp only [e1, e2]
      rfl
    · rw [if_neg h8, flip_set l (i - 8) (by simp at h; omega)]
      have e1 : i / 8 = (i - 8) / 8 + 1 := by omega
      have e2 : i % 8 = (i - 8) % 8 := by omega
      simp only [e1, e2, List.set_cons_succ, List.getElem_cons_succ]
theorem num_flip : ∀ (l : List UInt8) (i : Nat), i < 8 * l.length → num (flip l i) = num l ^^^ 2 ^ i
  | [], i, h => by simp at h
  | c :: l, i, h => by
    have hc := c.toNat_lt
    unfold flip
    by_cases h8 : i < 8
    · rw [if_pos h8]
      have hp : 2 ^ i < 256 := by
        have := Nat.pow_lt_pow_right (a := 2) (by omega) h8
        exact this
      simp only [num]
      rw [split_add _ _ (c ^^^ UInt8.ofNat (2 ^ i)).toNat_lt, split_add _ _ hc, UInt8.toNat_xor, ofNat_toNat hp, Nat.xor_assoc]
    · rw [if_neg h8]
      simp only [num]
      rw [num_flip l (i - 8) (by simp at h; omega), split_add _ _ hc, split_add _ _ hc]
      have e : 256 * (num l ^^^ 2 ^ (i - 8)) = (256 * num l) ^^^ 2 ^ i := by
        apply Nat.eq_of_testBit_eq
        intro j
        simp only [show (256 : Nat) = 2 ^ 8 from rfl, Nat.testBit_xor, Nat.testBit_two_pow_mul, Nat.testBit_two_pow]
        by_cases hj : 8 ≤ j
        · have : (i - 8 = j - 8) = (i = j) := by apply propext; omega
          simp [hj, this]
        · have : ¬ i = j := by omega
          simp [hj, this]
      rw [e, Nat.xor_assoc, Nat.xor_comm (2 ^ i), ← Nat.xor_assoc]
end Go.Proofs.Ytcoilgfjabnoeaa.Crc
