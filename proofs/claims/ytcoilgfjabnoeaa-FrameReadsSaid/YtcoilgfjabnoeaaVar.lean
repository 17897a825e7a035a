/- Varints, in plain Lean: how a number is written, and read. No program in sight. -/
namespace Go.Proofs.Ytcoilgfjabnoeaa.Var

/-- The bytes of a number, at most so many and one. -/
def putF : Nat → Nat → List UInt8
  | 0, n => [UInt8.ofNat n]
  | k + 1, n => if n < 128 then [UInt8.ofNat n] else UInt8.ofNat (n % 128 + 128) :: putF k (n / 128)
def put (n : Nat) : List UInt8 := putF 9 n

/-- What bytes begin with: the number, its size, the error's number; i bytes are read, they say acc. -/
def getF : List UInt8 → Nat → Nat → Nat × Nat × Nat
  | [], _, _ => (0, 0, 2)
  | c :: r, i, acc =>
    if i = 9 ∧ 1 < c.toNat then (0, 0, 4)
    else if 0 < i ∧ c.toNat = 0 then (0, 0, 3)
    else if c.toNat < 128 then (acc + c.toNat % 128 * 128 ^ i, i + 1, 0)
    else getF r (i + 1) (acc + c.toNat % 128 * 128 ^ i)
def get (l : List UInt8) : Nat × Nat × Nat := getF l 0 0

theorem putF_length : ∀ (k n : Nat), 1 ≤ (putF k n).length ∧ (putF k n).length ≤ k + 1
  | 0, n => by simp [putF]
  | k + 1, n => by
    have := putF_length k (n / 128)
    unfold putF; split <;> simp <;> omega
theorem putF_small (k n : Nat) (h : n < 128) : putF k n = [UInt8.ofNat n] := by cases k <;> simp [putF, h]
theorem putF_large (k n : Nat) (h : 128 ≤ n) : putF (k + 1) n = UInt8.ofNat (n % 128 + 128) :: putF k (n / 128) := by rw [putF, if_neg (by omega)]
theorem put_length (n : Nat) : 1 ≤ (put n).length ∧ (put n).length ≤ 10 := putF_length 9 n

theorem toNat_ofNat {n : Nat} (h : n < 256) : (UInt8.ofNat n).toNat = n := by simp; omega

/-- The size of a number, by comparisons. -/
def size (n : Nat) : Nat := (put n).length

theorem getF_putF : ∀ (k n i acc : Nat) (r : List UInt8), i + k = 9 → n < 2 * 128 ^ k → (0 < i → 0 < n) →
    getF (putF k n ++ r) i acc = (acc + n * 128 ^ i, i + (putF k n).length, 0)
  | 0, n, i, acc, r, hi, hn, h0 => by
    have hn' : n < 2 := by simpa using hn
    have e : (UInt8.ofNat n).toNat = n := toNat_ofNat (by omega)
    simp only [putF, List.cons_append, List.nil_append, getF, e]
    rw [if_neg (by omega), if_neg (by omega), if_pos (by omega), Nat.mod_eq_of_lt (by omega)]
    simp
  | k + 1, n, i, acc, r, hi, hn, h0 => by
    by_cases h : n < 128
    · have e : (UInt8.ofNat n).toNat = n := toNat_ofNat (by omega)
      simp only [putF, h, if_true, List.cons_append, List.nil_append, getF, e]
      rw [if_neg (by omega), if_neg (by omega), Nat.mod_eq_of_lt h]
      simp
    · have e : (UInt8.ofNat (n % 128 + 128)).toNat = n % 128 + 128 := toNat_ofNat (by omega)
      have ih := getF_putF k (n / 128) (i + 1) (acc + n % 128 * 128 ^ i) r (by omega) (by rw [Nat.pow_succ] at hn; omega) (fun _ => by omega)
      simp only [putF, h, if_false, List.cons_append, getF, e]
      rw [if_neg (by omega), if_neg (by omega), if_neg (by omega)]
      have e2 : (n % 128 + 128) % 128 = n % 128 := by omega
      rw [e2, ih]
      have e3 : n * 128 ^ i = n % 128 * 128 ^ i + n / 128 * 128 ^ (i + 1) := by
        rw [Nat.pow_succ, Nat.mul_comm (128 ^ i) 128, ← Nat.mul_assoc, ← Nat.add_mul]
        congr 1
        omega
      simp only [List.length_cons, Prod.mk.injEq, and_true]
      constructor <;> omega
theorem get_put (n : Nat) (r : List UInt8) (h : n < 18446744073709551616) : get (put n ++ r) = (n, (put n).length, 0) := by
  have := getF_putF 9 n 0 0 r rfl (by simpa using h) (by omega)
  simpa [get, put] using this

/-- What is read is written in just these bytes. -/
theorem putF_getF : ∀ (k i acc : Nat) (l : List UInt8) (n s : Nat), i + k = 9 → acc < 128 ^ i → getF l i acc = (n, s, 0) →
    ∃ m j, n = acc + m * 128 ^ i ∧ s = i + j ∧ j ≤ l.length ∧ putF k m = l.take j ∧ m < 2 * 128 ^ k ∧ (0 < i → 0 < m)
  | k, i, acc, [], n, s, _, _, h => by simp [getF] at h
  | 0, i, acc, c :: r, n, s, hi, ha, h => by
    simp only [getF] at h
    have hi9 : i = 9 := by omega
    by_cases h1 : 1 < c.toNat
    · rw [if_pos ⟨hi9, h1⟩] at h; simp at h
    · rw [if_neg (by omega)] at h
      by_cases h2 : c.toNat = 0
      · rw [if_pos ⟨by omega, h2⟩] at h; simp at h
      · rw [if_neg (by omega), if_pos (by omega)] at h
        simp only [Prod.mk.injEq, and_true] at h
        refine ⟨c.toNat, 1, by rw [← h.1, Nat.mod_eq_of_lt (by omega)], h.2.symm, by simp, by simp [putF], by simp; omega, fun _ => by omega⟩
  | k + 1, i, acc, c :: r, n, s, hi, ha, h => by
    simp only [getF] at h
    have hc := c.toNat_lt
    rw [if_neg (by omega)] at h
    by_cases h2 : 0 < i ∧ c.toNat = 0
    · rw [if_pos h2] at h; simp at h
    · rw [if_neg h2] at h
      by_cases h3 : c.toNat < 128
      · rw [if_pos h3] at h
        simp only [Prod.mk.injEq, and_true] at h
        refine ⟨c.toNat, 1, by rw [← h.1, Nat.mod_eq_of_lt h3], h.2.symm, by simp, by simp [putF, h3], ?_, fun _ => by omega⟩
        have := Nat.pow_pos (n := k) (show 0 < 128 by omega)
        rw [Nat.pow_succ]; omega
      · rw [if_neg h3] at h
        have ha' : acc + c.toNat % 128 * 128 ^ i < 128 ^ (i + 1) := by
          have h5 : c.toNat % 128 * 128 ^ i ≤ 127 * 128 ^ i := Nat.mul_le_mul_right _ (by omega)
          rw [Nat.pow_succ]
          have : 128 ^ i * 128 = 127 * 128 ^ i + 128 ^ i := by omega
          omega
        obtain ⟨m, j, e1, e2, e3, e4, e5, e6⟩ := putF_getF k (i + 1) _ r n s (by omega) ha' h
        have hm := e6 (by omega)
        refine ⟨m * 128 + c.toNat % 128, j + 1, ?_, by omega, by simp; omega, ?_, by rw [Nat.pow_succ]; omega, fun _ => by omega⟩
        · rw [e1, Nat.pow_succ, Nat.add_mul]
          have : m * (128 ^ i * 128) = m * 128 * 128 ^ i := by rw [Nat.mul_comm (128 ^ i), Nat.mul_assoc]
          omega
        · rw [putF, if_neg (by omega)]
          have e7 : (m * 128 + c.toNat % 128) / 128 = m := by omega
          have e8 : (m * 128 + c.toNat % 128) % 128 + 128 = c.toNat := by omega
          rw [e7, e8, e4]
          simp
theorem put_get {l : List UInt8} {n s : Nat} (h : get l = (n, s, 0)) : put n = l.take s ∧ s ≤ l.length ∧ n < 18446744073709551616 ∧ 1 ≤ s := by
  obtain ⟨m, j, e1, e2, e3, e4, e5, _⟩ := putF_getF 9 0 0 l n s rfl (by simp) h
  have hm : n = m := by simpa using e1
  have hj : s = j := by omega
  subst hm hj
  refine ⟨e4, e3, by simpa using e5, ?_⟩
  have := (putF_length 9 n).1
  rw [e4] at this
  simp at this
  omega

theorem getF_cases : ∀ (l : List UInt8) (i acc : Nat), (getF l i acc).2.2 = 0 ∨ (getF l i acc = (0, 0, 2) ∨ getF l i acc = (0, 0, 3) ∨ getF l i acc = (0, 0, 4))
  | [], _, _ => by simp [getF]
  | c :: r, i, acc => by
    have ih := getF_cases r (i + 1) (acc + c.toNat % 128 * 128 ^ i)
    unfold getF
    repeat' split
    all_goals first | exact ih | simp
theorem putF_mono : ∀ (k a b : Nat), a ≤ b → (putF k a).length ≤ (putF k b).length
  | 0, a, b, _ => by simp [putF]
  | k + 1, a, b, h => by
    have := putF_mono k (a / 128) (b / 128) (Nat.div_le_div_right h)
    have := (putF_length k (b / 128)).1
    unfold putF
    split <;> split <;> simp <;> omega
theorem getF_cut : ∀ (k n i acc j : Nat), i + k = 9 → n < 2 * 128 ^ k → j < (putF k n).length → getF ((putF k n).take j) i acc = (0, 0, 2)
  | _, _, _, _, 0, _, _, _ => by simp [getF]
  | 0, n, i, acc, j + 1, hi, hn, hj => by simp [putF] at hj
  | k + 1, n, i, acc, j + 1, hi, hn, hj => by
    by_cases h : n < 128
    · simp [putF, h] at hj
    · have e : (UInt8.ofNat (n % 128 + 128)).toNat = n % 128 + 128 := toNat_ofNat (by omega)
      simp only [putF, h, if_false, List.length_cons] at hj
      simp only [putF, h, if_false, List.take_succ_cons, getF, e]
      rw [if_neg (by omega), if_neg (by omega), if_neg (by omega)]
      exact getF_cut k (n / 128) (i + 1) _ j (by omega) (by rw [Nat.pow_succ] at hn; omega) (by omega)
theorem get_cut {n j : Nat} (h : n < 18446744073709551616) (hj : j < (put n).length) : get ((put n).take j) = (0, 0, 2) :=
  getF_cut 9 n 0 0 j rfl (by simpa using h) hj
theorem toNat_or128 (c : UInt8) : (UInt8.ofNat (c.toNat % 128 + 128)).toNat = c.toNat % 128 + 128 := toNat_ofNat (by omega)
/-- With a byte that goes on and a nought in its last one's place. -/
theorem getF_long : ∀ (k n i acc : Nat) (c : UInt8) (l : List UInt8), i + k = 9 → n < 2 * 128 ^ k → (0 < i → 0 < n) → putF k n = l ++ [c] →
    (getF (l ++ [UInt8.ofNat (c.toNat % 128 + 128), 0]) i acc).2.2 = 3 ∨ (i + l.length = 9 ∧ (getF (l ++ [UInt8.ofNat (c.toNat % 128 + 128), 0]) i acc).2.2 = 4)
  | 0, n, i, acc, c, l, hi, hn, h0, h => by
    have hl : l = [] := by
      have := congrArg List.length h
      simp [putF] at this
      exact this
    subst hl
    refine .inr ⟨by simp; omega, ?_⟩
    simp only [List.nil_append, getF, toNat_or128]
    rw [if_pos (by omega)]
  | k + 1, n, i, acc, c, l, hi, hn, h0, h => by
    by_cases hs : n < 128
    · simp only [putF, hs, if_true] at h
      have hl : l = [] := by
        have := congrArg List.length h
        simp at this
        exact this
      subst hl
      refine .inl ?_
      simp only [List.nil_append, getF, toNat_or128]
      rw [if_neg (by omega), if_neg (by omega), if_neg (by omega), if_neg (by simp), if_pos ⟨by omega, by simp⟩]
    · rw [putF, if_neg hs] at h
      match l, h with
      | [], h =>
        have := (putF_length k (n / 128)).1
        have h2 := congrArg List.length h
        simp at h2
        rw [h2] at this
        simp at this
      | x :: l, h =>
        simp only [List.cons_append, List.cons.injEq] at h
        obtain ⟨rfl, h⟩ := h
        have e : (UInt8.ofNat (n % 128 + 128)).toNat = n % 128 + 128 := toNat_ofNat (by omega)
        simp only [List.cons_append, getF, e]
        rw [if_neg (by omega), if_neg (by omega), if_neg (by omega)]
        rcases getF_long k (n / 128) (i + 1) (acc + (n % 128 + 128) % 128 * 128 ^ i) c l (by omega) (by rw [Nat.pow_succ] at hn; omega) (fun _ => by omega) h with h3 | ⟨h3, h4⟩
        · exact .inl h3
        · exact .inr ⟨by simp; omega, h4⟩
theorem get_long {n : Nat} {c : UInt8} {l : List UInt8} (h : n < 18446744073709551616) (hp : put n = l ++ [c]) :
    (get (l ++ [UInt8.ofNat (c.toNat % 128 + 128), 0])).2.2 = 3 ∨ ((put n).length = 10 ∧ (get (l ++ [UInt8.ofNat (c.toNat % 128 + 128), 0])).2.2 = 4) := by
  rcases getF_long 9 n 0 0 c l rfl (by simpa using h) (by omega) hp with h1 | ⟨h1, h2⟩
  · exact .inl h1
  · exact .inr ⟨by rw [hp]; simp; omega, h2⟩
theorem put_mono {a b : Nat} (h : a ≤ b) : (put a).length ≤ (put b).length := putF_mono 9 a b h
theorem put_take {a b : Nat} (ha : a < 18446744073709551616) (hb : b < 18446744073709551616) : put a = (put b).take (put a).length ↔ a = b := by
  constructor
  · intro h
    have h1 := get_put a ((put b).drop (put a).length) ha
    have h2 := get_put b [] hb
    rw [List.append_nil] at h2
    rw [show put a ++ (put b).drop (put a).length = put b by conv => lhs; arg 1; rw [h]
                                                             exact List.take_append_drop _ _] at h1
    rw [h1] at h2
    simpa using congrArg Prod.fst h2
  · rintro rfl
    rw [List.take_length]
end Go.Proofs.Ytcoilgfjabnoeaa.Var
