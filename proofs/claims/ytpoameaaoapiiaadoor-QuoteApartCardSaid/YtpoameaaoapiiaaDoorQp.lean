/- Quoted texts in plain Lean: what is read, by the document. No program in sight. -/
import Derived.Test.YtpoameaaoapiiaaDoorUtf2
namespace Go.Proofs.YtpoameaaoapiiaaDoor.Qt

/-- A hexadecimal digit's value; 16: it is none. -/
def hexv (c : Nat) : Nat := if 48 ≤ c ∧ c ≤ 57 then c - 48 else if 97 ≤ c ∧ c ≤ 102 then c - 87 else if 65 ≤ c ∧ c ≤ 70 then c - 55 else 16
def hexI (c : Nat) : Int := if hexv c = 16 then -1 else (hexv c : Int)

/-- So many digits at the front: the number, and the error. -/
def unitF : Nat → Nat → List UInt8 → Nat × Nat
  | 0, n, _ => (n, 0)
  | _ + 1, _, [] => (0, 2)
  | k + 1, n, b :: r => if hexv b.toNat = 16 then (0, 3) else unitF k (n * 16 + hexv b.toNat) r

/-- A part: what it stands for, how many bytes it has, the error. -/
structure Pt where
  s : List UInt8
  n : Nat
  e : Nat
def err (e : Nat) : Pt := ⟨[], 0, e⟩

/-- What a sign behind a backslash stands for; 0: nothing. -/
def mean (c : Nat) : Nat := if c = 34 then 34 else if c = 92 then 92 else if c = 47 then 47 else if c = 98 then 8 else if c = 102 then 12 else if c = 110 then 10 else if c = 114 then 13 else if c = 116 then 9 else 0

/-- The second unit of two, its backslash and u ahead. -/
def low (n : Nat) : List UInt8 → Pt
  | [] => err 2
  | x :: r => if x.toNat ≠ 92 then err 3 else
    match r with
    | [] => err 2
    | y :: t => if y.toNat ≠ 117 then err 3 else
      if (unitF 4 0 t).2 ≠ 0 then err (unitF 4 0 t).2
      else if (unitF 4 0 t).1 < 56320 ∨ 57343 < (unitF 4 0 t).1 then err 3
      else ⟨Utf.enc (65536 + (n - 55296) * 1024 + (unitF 4 0 t).1 - 56320), 12, 0⟩

/-- The part behind a backslash and u: these bytes begin behind the u. -/
def coded (t : List UInt8) : Pt :=
  if (unitF 4 0 t).2 ≠ 0 then err (unitF 4 0 t).2
  else if 56320 ≤ (unitF 4 0 t).1 ∧ (unitF 4 0 t).1 ≤ 57343 then err 3
  else if (unitF 4 0 t).1 < 55296 ∨ 57343 < (unitF 4 0 t).1 then ⟨Utf.enc (unitF 4 0 t).1, 6, 0⟩
  else low (unitF 4 0 t).1 (t.drop 4)

/-- What stands behind a backslash. -/
def esc : List UInt8 → Pt
  | [] => err 2
  | c :: t => if mean c.toNat ≠ 0 then ⟨[UInt8.ofNat (mean c.toNat)], 2, 0⟩ else if c.toNat = 117 then coded t else err 3

/-- The part at the front, which isn't the end's. -/
def part : List UInt8 → Pt
  | [] => err 2
  | b :: r =>
    if b.toNat < 32 then err 3
    else if b.toNat ≠ 92 then
      if (Utf.next (b :: r)).2 = 0 then err 7 else ⟨(b :: r).take (Utf.next (b :: r)).2, (Utf.next (b :: r)).2, 0⟩
    else esc r

def quoteHead : List UInt8 → Bool
  | [] => false
  | b :: _ => decide (b.toNat = 34)

/-- From a place on, what was read ahead being given. -/
def scanF : Nat → List UInt8 → List UInt8 → Nat → Pt
  | 0, _, _, _ => err 2
  | k + 1, l, s, p => if quoteHead l = true then ⟨s, p + 1, 0⟩ else if (part l).e ≠ 0 then err (part l).e else scanF k (l.drop (part l).n) (s ++ (part l).s) (p + (part l).n)

/-- The quoted text that bytes begin with. -/
def scan (b : List UInt8) : Pt :=
  match b with
  | [] => err 2
  | c :: r => if c.toNat ≠ 34 then err 3 else scanF (r.length + 1) r [] 1

theorem hexv_le (c : Nat) : hexv c ≤ 16 := by unfold hexv; split; · omega
                                              split; · omega
                                              split <;> omega
theorem unitF_err : ∀ (k n : Nat) (l : List UInt8), (unitF k n l).2 = 0 ∨ ((unitF k n l).1 = 0 ∧ ((unitF k n l).2 = 2 ∨ (unitF k n l).2 = 3))
  | 0, n, l => .inl rfl
  | k + 1, n, [] => .inr ⟨rfl, .inl rfl⟩
  | k + 1, n, b :: r => by
    unfold unitF
    split
    · exact .inr ⟨rfl, .inr rfl⟩
    · exact unitF_err k _ r
theorem unitF_lt : ∀ (k n : Nat) (l : List UInt8), (unitF k n l).1 < (n + 1) * 16 ^ k
  | 0, n, l => by simp [unitF]
  | k + 1, n, [] => by show 0 < _; exact Nat.mul_pos (Nat.succ_pos _) (Nat.pow_pos (by decide))
  | k + 1, n, b :: r => by
    unfold unitF
    have hh := hexv_le b.toNat
    split
    · exact Nat.mul_pos (by omega) (Nat.pow_pos (by omega))
    · rename_i hne
      refine Nat.lt_of_lt_of_le (unitF_lt k _ r) ?_
      rw [Nat.pow_succ, Nat.mul_comm (16 ^ k), ← Nat.mul_assoc]
      exact Nat.mul_le_mul_right _ (by omega)
theorem unit_lt (l : List UInt8) : (unitF 4 0 l).1 < 65536 := by simpa using unitF_lt 4 0 l
theorem unitF_len : ∀ (k n : Nat) (l : List UInt8), (unitF k n l).2 = 0 → k ≤ l.length
  | 0, _, _, _ => Nat.zero_le _
  | k + 1, _, [], h => by simp [unitF] at h
  | k + 1, n, b :: r, h => by
    unfold unitF at h
    split at h
    · simp at h
    · have := unitF_len k _ r h; simp; omega
theorem low_ok {n : Nat} {l : List UInt8} (h : (low n l).e = 0) : (low n l).n = 12 ∧ 6 ≤ l.length := by
  unfold low at h ⊢
  cases l with
  | nil => simp [err] at h
  | cons x r =>
    simp only at h ⊢
    split at h
    · simp [err] at h
    · rename_i hx
      rw [if_neg hx]
      cases r with
      | nil => simp [err] at h
      | cons y t =>
        simp only at h ⊢
        split at h
        · simp [err] at h
        · rename_i hy
          rw [if_neg hy]
          split at h
          · rename_i hu; exact absurd h hu
          · rename_i hu
            rw [if_neg hu]
            have hlen := unitF_len 4 0 t (by simpa using hu)
            split at h
            · simp [err] at h
            · rename_i hv
              rw [if_neg hv]
              exact ⟨rfl, by simp; omega⟩
theorem coded_ok {t : List UInt8} (h : (coded t).e = 0) : 6 ≤ (coded t).n ∧ (coded t).n ≤ t.length + 2 := by
  unfold coded at h ⊢
  split at h
  · rename_i hu; exact absurd h hu
  · rename_i hu
    rw [if_neg hu]
    have hlen := unitF_len 4 0 t (by simpa using hu)
    split at h
    · simp [err] at h
    · rename_i hv
      rw [if_neg hv]
      split at h
      · rename_i hw
        rw [if_pos hw]
        simp only
        omega
      · rename_i hw
        rw [if_neg hw]
        obtain ⟨h1, h2⟩ := low_ok h
        rw [h1]
        simp at h2
        omega
theorem esc_ok {l : List UInt8} (h : (esc l).e = 0) : 2 ≤ (esc l).n ∧ (esc l).n ≤ l.length + 1 := by
  unfold esc at h ⊢
  cases l with
  | nil => simp [err] at h
  | cons c t =>
    simp only at h ⊢
    split
    · simp
    · rename_i hm
      rw [if_neg hm] at h
      split
      · rename_i hc
        rw [if_pos hc] at h
        have := coded_ok h
        simp; omega
      · rename_i hc
        rw [if_neg hc] at h
        simp [err] at h
theorem part_ok {l : List UInt8} (h : (part l).e = 0) : 1 ≤ (part l).n ∧ (part l).n ≤ l.length := by
  unfold part at h ⊢
  cases l with
  | nil => simp [err] at h
  | cons b r =>
    simp only at h ⊢
    split at h
    · simp [err] at h
    · rename_i h1
      rw [if_neg h1]
      split at h
      · rename_i h2
        rw [if_pos h2]
        split at h
        · simp [err] at h
        · rename_i h3
          rw [if_neg h3]
          have := Utf.next_le (l := b :: r)
          simp only at this ⊢
          omega
      · rename_i h2
        rw [if_neg h2]
        have := esc_ok h
        simp; omega
theorem scanF_fuel : ∀ (k m : Nat) (l s : List UInt8) (p : Nat), l.length < k → l.length < m → scanF k l s p = scanF m l s p
  | 0, _, _, _, _, h, _ => by omega
  | _, 0, _, _, _, _, h => by omega
  | k + 1, m + 1, l, s, p, hk, hm => by
    unfold scanF
    split
    · rfl
    · split
      · rfl
      · rename_i he
        have := part_ok (l := l) (by simpa using he)
        exact scanF_fuel k m _ _ _ (by simp; omega) (by simp; omega)
/-- From a place on, with as much fuel as is wanted. -/
def go (l s : List UInt8) (p : Nat) : Pt := scanF (l.length + 1) l s p
theorem go_quote {l : List UInt8} (s : List UInt8) (p : Nat) (h : quoteHead l = true) : go l s p = ⟨s, p + 1, 0⟩ := by unfold go scanF; rw [if_pos h]
theorem go_err {l : List UInt8} (s : List UInt8) (p : Nat) (h : quoteHead l = false) (he : (part l).e ≠ 0) : go l s p = err (part l).e := by
  unfold go scanF; rw [if_neg (by rw [h]; simp), if_pos he]
theorem go_part {l : List UInt8} (s : List UInt8) (p : Nat) (h : quoteHead l = false) (he : (part l).e = 0) : go l s p = go (l.drop (part l).n) (s ++ (part l).s) (p + (part l).n) := by
  have := part_ok he
  unfold go
  rw [scanF, if_neg (by rw [h]; simp), if_neg (by simpa using he)]
  exact scanF_fuel _ _ _ _ _ (by simp; omega) (by simp)
theorem scan_cons (c : UInt8) (r : List UInt8) : scan (c :: r) = if c.toNat ≠ 34 then err 3 else go r [] 1 := rfl

/-- The second unit behind its backslash and u. -/
def low2 (n : Nat) (t : List UInt8) : Pt :=
  if (unitF 4 0 t).2 ≠ 0 then err (unitF 4 0 t).2
  else if (unitF 4 0 t).1 < 56320 ∨ 57343 < (unitF 4 0 t).1 then err 3
  else ⟨Utf.enc (65536 + (n - 55296) * 1024 + (unitF 4 0 t).1 - 56320), 12, 0⟩
def bt (l : List UInt8) (i : Nat) : Nat := (l.getD i 0).toNat
theorem bt_eq {l : List UInt8} {i : Nat} (h : i < l.length) : l[i].toNat = bt l i := by unfold bt; rw [List.getD_eq_getElem?_getD, List.getElem?_eq_getElem h]; rfl
theorem low_at (n : Nat) (l : List UInt8) (q : Nat) : low n (l.drop q) = if l.length ≤ q then err 2 else if bt l q ≠ 92 then err 3 else if l.length ≤ q + 1 then err 2 else if bt l (q + 1) ≠ 117 then err 3 else low2 n (l.drop (q + 2)) := by
  by_cases h : l.length ≤ q
  · rw [if_pos h, List.drop_eq_nil_of_le h]; rfl
  · have h' : q < l.length := by omega
    rw [if_neg h, List.drop_eq_getElem_cons h', low.eq_def]
    simp only [bt_eq h']
    split
    · rfl
    · by_cases h2 : l.length ≤ q + 1
      · rw [if_pos h2, List.drop_eq_nil_of_le h2]
      · have h2' : q + 1 < l.length := by omega
        rw [if_neg h2, List.drop_eq_getElem_cons h2']
        simp only [bt_eq h2']
        rfl
theorem esc_at (l : List UInt8) (q : Nat) : esc (l.drop q) = if l.length ≤ q then err 2 else if mean (bt l q) ≠ 0 then ⟨[UInt8.ofNat (mean (bt l q))], 2, 0⟩ else if bt l q = 117 then coded (l.drop (q + 1)) else err 3 := by
  by_cases h : l.length ≤ q
  · rw [if_pos h, List.drop_eq_nil_of_le h]; rfl
  · have h' : q < l.length := by omega
    rw [if_neg h, List.drop_eq_getElem_cons h', esc, bt_eq h']
theorem part_at (l : List UInt8) (q : Nat) : part (l.drop q) = if l.length ≤ q then err 2 else if bt l q < 32 then err 3 else if bt l q ≠ 92 then (if (Utf.next (l.drop q)).2 = 0 then err 7 else ⟨(l.drop q).take (Utf.next (l.drop q)).2, (Utf.next (l.drop q)).2, 0⟩) else esc (l.drop (q + 1)) := by
  by_cases h : l.length ≤ q
  · rw [if_pos h, List.drop_eq_nil_of_le h]; rfl
  · have h' : q < l.length := by omega
    rw [if_neg h, List.drop_eq_getElem_cons h', part, bt_eq h']
theorem quote_at (l : List UInt8) (q : Nat) : quoteHead (l.drop q) = (decide (q < l.length) && decide (bt l q = 34)) := by
  by_cases h : q < l.length
  · rw [List.drop_eq_getElem_cons h, quoteHead, bt_eq h]; simp [h]
  · rw [List.drop_eq_nil_of_le (by omega)]; simp [quoteHead, h]
end Go.Proofs.YtpoameaaoapiiaaDoor.Qt
