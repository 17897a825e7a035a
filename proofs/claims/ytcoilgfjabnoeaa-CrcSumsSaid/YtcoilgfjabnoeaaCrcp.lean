/- CRC-32 in plain Lean: the sum bit by bit, and by the table. No program in sight. -/
namespace Go.Proofs.Ytcoilgfjabnoeaa.Crc

/-- One bit's step. -/
def bit (n : Nat) : Nat := n / 2 ^^^ n % 2 * 3988292384
def bits8 (n : Nat) : Nat := bit (bit (bit (bit (bit (bit (bit (bit n)))))))

theorem bit_xor (a b : Nat) : bit (a ^^^ b) = bit a ^^^ bit b := by
  unfold bit
  have h2 : (a ^^^ b) / 2 = a / 2 ^^^ b / 2 := by
    apply Nat.eq_of_testBit_eq
    intro i
    simp only [Nat.testBit_div_two, Nat.testBit_xor]
  rw [h2]
  have ha : a % 2 = 0 ∨ a % 2 = 1 := by omega
  have hb : b % 2 = 0 ∨ b % 2 = 1 := by omega
  have hx : (a ^^^ b) % 2 = a % 2 ^^^ b % 2 := Nat.xor_mod_two_pow (n := 1)
  rw [hx]
  rcases ha with ha | ha <;> rcases hb with hb | hb <;> rw [ha, hb]
  · simp
  · simp [Nat.xor_assoc]
  · simp only [Nat.xor_zero, Nat.one_mul, Nat.zero_mul]
    rw [Nat.xor_assoc, Nat.xor_comm (b / 2), ← Nat.xor_assoc]
  · simp only [Nat.xor_self, Nat.one_mul, Nat.zero_mul, Nat.xor_zero]
    rw [Nat.xor_assoc (a / 2), ← Nat.xor_assoc 3988292384, Nat.xor_comm 3988292384, Nat.xor_assoc (b / 2), Nat.xor_self, Nat.xor_zero]
theorem bits8_xor (a b : Nat) : bits8 (a ^^^ b) = bits8 a ^^^ bits8 b := by unfold bits8; simp only [bit_xor]
theorem bit_even (m : Nat) : bit (2 * m) = m := by unfold bit; simp
theorem bits8_high (h : Nat) : bits8 (256 * h) = h := by
  unfold bits8
  rw [show 256 * h = 2 * (2 * (2 * (2 * (2 * (2 * (2 * (2 * h))))))) by omega]
  simp only [bit_even]
theorem split8 (n : Nat) : n = (256 * (n / 256)) ^^^ (n % 256) := by
  apply Nat.eq_of_testBit_eq
  intro i
  rw [Nat.testBit_xor, show (256 : Nat) = 2 ^ 8 from rfl, Nat.testBit_two_pow_mul, Nat.testBit_mod_two_pow, Nat.testBit_div_two_pow]
  by_cases h : i < 8
  · have h8 : ¬ 8 ≤ i := by omega
    simp [h, h8]
  · have h8 : 8 ≤ i := by omega
    simp [h, h8]
/-- Eight bits at once, by the table. -/
theorem bits8_table (n : Nat) : bits8 n = n / 256 ^^^ bits8 (n % 256) := by
  conv => lhs; rw [split8 n]
  rw [bits8_xor, bits8_high]
theorem xor_div (a b : Nat) : (a ^^^ b) / 256 = a / 256 ^^^ b / 256 := by
  apply Nat.eq_of_testBit_eq
  intro i
  rw [show (256 : Nat) = 2 ^ 8 from rfl]
  simp only [Nat.testBit_div_two_pow, Nat.testBit_xor]
/-- A byte's step, by the table. -/
theorem step_table (n c : Nat) (hc : c < 256) : bits8 (n ^^^ c) = n / 256 ^^^ bits8 ((n ^^^ c) % 256) := by
  rw [bits8_table, xor_div, Nat.div_eq_of_lt hc, Nat.xor_zero]
theorem bit_lt {n : Nat} (h : n < 4294967296) : bit n < 4294967296 := by
  unfold bit
  have h1 : n / 2 < 2 ^ 32 := by omega
  have h2 : n % 2 * 3988292384 < 2 ^ 32 := by have : n % 2 < 2 := Nat.mod_lt _ (by omega); omega
  exact Nat.xor_lt_two_pow h1 h2
theorem bits8_lt {n : Nat} (h : n < 4294967296) : bits8 n < 4294967296 := by
  unfold bits8
  exact bit_lt (bit_lt (bit_lt (bit_lt (bit_lt (bit_lt (bit_lt (bit_lt h)))))))

/-- The sum's state behind bytes. -/
def run : Nat → List UInt8 → Nat
  | n, [] => n
  | n, c :: l => run (bits8 (n ^^^ c.toNat)) l
theorem run_append (n : Nat) (a b : List UInt8) : run n (a ++ b) = run (run n a) b := by
  induction a generalizing n with
  | nil => rfl
  | cons c a ih => exact ih _
theorem run_lt {n : Nat} (h : n < 4294967296) (l : List UInt8) : run n l < 4294967296 := by
  induction l generalizing n with
  | nil => exact h
  | cons c l ih =>
    have hc := c.toNat_lt
    exact ih (bits8_lt (show n ^^^ c.toNat < 2 ^ 32 from Nat.xor_lt_two_pow h (by omega)))
theorem run_xor (n m : Nat) : ∀ (a b : List UInt8), a.length = b.length → run n a ^^^ run m b = run (n ^^^ m) (List.zipWith (· ^^^ ·) a b)
  | [], [], _ => rfl
  | c :: a, d :: b, h => by
    have e : (n ^^^ m) ^^^ (c ^^^ d).toNat = (n ^^^ c.toNat) ^^^ (m ^^^ d.toNat) := by
      rw [UInt8.toNat_xor, Nat.xor_assoc, Nat.xor_assoc, ← Nat.xor_assoc m, Nat.xor_comm m, Nat.xor_assoc c.toNat]
    simp only [run, List.zipWith_cons_cons]
    rw [e, bits8_xor (n ^^^ c.toNat)]
    exact run_xor _ _ a b (by simpa using h)
  | [], _ :: _, h => by simp at h
  | _ :: _, [], h => by simp at h
/-- The sum of bytes. -/
def of (l : List UInt8) : Nat := 4294967295 ^^^ run 4294967295 l
theorem of_xor {a b : List UInt8} (h : a.length = b.length) : of a ^^^ of b = run 0 (List.zipWith (· ^^^ ·) a b) := by
  unfold of
  rw [Nat.xor_comm 4294967295, Nat.xor_assoc, ← Nat.xor_assoc 4294967295, Nat.xor_self, Nat.zero_xor, run_xor _ _ a b h, Nat.xor_self]
/-- The sums of bytes that are changed alike differ alike. -/
theorem order {a b : List UInt8} (h : a.length = b.length) : of (List.zipWith (· ^^^ ·) a b) ^^^ of (List.replicate a.length 0) = of a ^^^ of b := by
  rw [of_xor h, of_xor (by simp [h])]
  congr 1
  have hz : ∀ (l : List UInt8) (n : Nat), n = l.length → List.zipWith (· ^^^ ·) l (List.replicate n 0) = l := by
    intro l
    induction l with
    | nil => intro n _; simp
    | cons x l ih => intro n hn; subst hn; simp [List.replicate_succ, ih]
  exact hz _ _ (by simp [h])
end Go.Proofs.Ytcoilgfjabnoeaa.Crc
