/- UTF-8 in plain Lean: scalars, how they are written, and read. No program in sight. -/
namespace Go.Proofs.YtpoameaaoapiiaaDoor.Utf

def scalar (c : Nat) : Bool := decide (c < 1114112 ∧ (c < 55296 ∨ 57343 < c))

/-- How a scalar is written; of another number: nothing. -/
def enc (c : Nat) : List UInt8 :=
  if scalar c = false then []
  else if c < 128 then [UInt8.ofNat c]
  else if c < 2048 then [UInt8.ofNat (192 + c / 64), UInt8.ofNat (128 + c % 64)]
  else if c < 65536 then [UInt8.ofNat (224 + c / 4096), UInt8.ofNat (128 + c / 64 % 64), UInt8.ofNat (128 + c % 64)]
  else [UInt8.ofNat (240 + c / 262144), UInt8.ofNat (128 + c / 4096 % 64), UInt8.ofNat (128 + c / 64 % 64), UInt8.ofNat (128 + c % 64)]

def cont (b : UInt8) : Bool := decide (128 ≤ b.toNat ∧ b.toNat < 192)

/-- The scalar at the front, and how many bytes it has; (0, 0): there is none. -/
def next : List UInt8 → Nat × Nat
  | [] => (0, 0)
  | b :: r =>
    if b.toNat < 128 then (b.toNat, 1)
    else if b.toNat < 192 then (0, 0)
    else if b.toNat < 224 then
      match r with
      | x :: _ =>
        let c := (b.toNat - 192) * 64 + (x.toNat - 128)
        if cont x = true ∧ 128 ≤ c then (c, 2) else (0, 0)
      | _ => (0, 0)
    else if b.toNat < 240 then
      match r with
      | x :: y :: _ =>
        let c := (b.toNat - 224) * 4096 + (x.toNat - 128) * 64 + (y.toNat - 128)
        if cont x = true ∧ cont y = true ∧ 2048 ≤ c ∧ scalar c = true then (c, 3) else (0, 0)
      | _ => (0, 0)
    else if b.toNat < 248 then
      match r with
      | x :: y :: z :: _ =>
        let c := (b.toNat - 240) * 262144 + (x.toNat - 128) * 4096 + (y.toNat - 128) * 64 + (z.toNat - 128)
        if cont x = true ∧ cont y = true ∧ cont z = true ∧ 65536 ≤ c ∧ scalar c = true then (c, 4) else (0, 0)
      | _ => (0, 0)
    else (0, 0)

theorem scalar_iff {c : Nat} : scalar c = true ↔ c < 1114112 ∧ (c < 55296 ∨ 57343 < c) := by simp [scalar]
theorem cont_iff {b : UInt8} : cont b = true ↔ 128 ≤ b.toNat ∧ b.toNat < 192 := by simp [cont]
theorem toNat_ofNat {n : Nat} (h : n < 256) : (UInt8.ofNat n).toNat = n := by simp; omega
theorem ofNat_eq {n : Nat} {b : UInt8} (h : n = b.toNat) : UInt8.ofNat n = b := by subst h; simp

theorem enc_nil {c : Nat} : enc c = [] ↔ scalar c = false := by
  unfold enc
  constructor
  · intro h
    split at h
    · assumption
    · repeat' split at h
      all_goals simp at h
  · intro h; rw [if_pos h]
theorem enc_length {c : Nat} (h : scalar c = true) : (enc c).length = if c < 128 then 1 else if c < 2048 then 2 else if c < 65536 then 3 else 4 := by
  unfold enc
  rw [if_neg (by simp [h])]
  repeat' split
  all_goals rfl
theorem enc_length_le (c : Nat) : (enc c).length ≤ 4 := by
  unfold enc
  repeat' split
  all_goals simp

/-- What is written is read. -/
theorem next_enc {c : Nat} (h : scalar c = true) (r : List UInt8) : next (enc c ++ r) = (c, (enc c).length) := by
  have hs := scalar_iff.1 h
  by_cases h1 : c < 128
  · have e : enc c = [UInt8.ofNat c] := by unfold enc; rw [if_neg (by simp [h]), if_pos h1]
    rw [e]
    simp only [List.cons_append, List.nil_append, next, toNat_ofNat (show c < 256 by omega), if_pos h1, List.length_cons, List.length_nil]
  · by_cases h2 : c < 2048
    · have e : enc c = [UInt8.ofNat (192 + c / 64), UInt8.ofNat (128 + c % 64)] := by unfold enc; rw [if_neg (by simp [h]), if_neg h1, if_pos h2]
      rw [e]
      have e1 : (UInt8.ofNat (192 + c / 64)).toNat = 192 + c / 64 := toNat_ofNat (by omega)
      have e2 : (UInt8.ofNat (128 + c % 64)).toNat = 128 + c % 64 := toNat_ofNat (by omega)
      simp only [List.cons_append, List.nil_append, next, cont_iff, e1, e2]
      rw [if_neg (by omega), if_neg (by omega), if_pos (by omega), if_pos (by omega)]
      simp only [List.length_cons, List.length_nil, Prod.mk.injEq, and_true]
      omega
    · by_cases h3 : c < 65536
      · have e : enc c = [UInt8.ofNat (224 + c / 4096), UInt8.ofNat (128 + c / 64 % 64), UInt8.ofNat (128 + c % 64)] := by unfold enc; rw [if_neg (by simp [h]), if_neg h1, if_neg h2, if_pos h3]
        rw [e]
        have e1 : (UInt8.ofNat (224 + c / 4096)).toNat = 224 + c / 4096 := toNat_ofNat (by omega)
        have e2 : (UInt8.ofNat (128 + c / 64 % 64)).toNat = 128 + c / 64 % 64 := toNat_ofNat (by omega)
        have e3 : (UInt8.ofNat (128 + c % 64)).toNat = 128 + c % 64 := toNat_ofNat (by omega)
        have e4 : (224 + c / 4096 - 224) * 4096 + (128 + c / 64 % 64 - 128) * 64 + (128 + c % 64 - 128) = c := by omega
        simp only [List.cons_append, List.nil_append, next, cont_iff, e1, e2, e3, e4, h]
        rw [if_neg (by omega), if_neg (by omega), if_neg (by omega), if_pos (by omega), if_pos ⟨by omega, by omega, by omega, trivial⟩]
        simp
      · have e : enc c = [UInt8.ofNat (240 + c / 262144), UInt8.ofNat (128 + c / 4096 % 64), UInt8.ofNat (128 + c / 64 % 64), UInt8.ofNat (128 + c % 64)] := by unfold enc; rw [if_neg (by simp [h]), if_neg h1, if_neg h2, if_neg h3]
        rw [e]
        have e1 : (UInt8.ofNat (240 + c / 262144)).toNat = 240 + c / 262144 := toNat_ofNat (by omega)
        have e2 : (UInt8.ofNat (128 + c / 4096 % 64)).toNat = 128 + c / 4096 % 64 := toNat_ofNat (by omega)
        have e3 : (UInt8.ofNat (128 + c / 64 % 64)).toNat = 128 + c / 64 % 64 := toNat_ofNat (by omega)
        have e4 : (UInt8.ofNat (128 + c % 64)).toNat = 128 + c % 64 := toNat_ofNat (by omega)
        have e5 : (240 + c / 262144 - 240) * 262144 + (128 + c / 4096 % 64 - 128) * 4096 + (128 + c / 64 % 64 - 128) * 64 + (128 + c % 64 - 128) = c := by omega
        simp only [List.cons_append, List.nil_append, next, cont_iff, e1, e2, e3, e4, e5, h]
        rw [if_neg (by omega), if_neg (by omega), if_neg (by omega), if_neg (by omega), if_pos (by omega), if_pos ⟨by omega, by omega, by omega, by omega, trivial⟩]
        simp

/-- What is read was written so. -/
theorem next_some {l : List UInt8} {c n : Nat} (h : next l = (c, n)) (hn : n ≠ 0) : scalar c = true ∧ l.take n = enc c ∧ n = (enc c).length ∧ n ≤ l.length := by
  have key : ∀ (t r : List UInt8) (c : Nat), scalar c = true → enc c = t → scalar c = true ∧ (t ++ r).take t.length = enc c ∧ t.length = (enc c).length ∧ t.length ≤ (t ++ r).length := fun t r c hs he => ⟨hs, by rw [he]; simp, by rw [he], by simp⟩
  match l, h with
  | [], h => simp [next] at h; omega
  | b :: r, h =>
    have hb := b.toNat_lt
    simp only [next] at h
    by_cases h1 : b.toNat < 128
    · rw [if_pos h1] at h
      simp only [Prod.mk.injEq] at h
      obtain ⟨rfl, rfl⟩ := h
      have hs : scalar b.toNat = true := scalar_iff.2 (by omega)
      refine key [b] r _ hs ?_
      unfold enc
      rw [if_neg (by simp [hs]), if_pos h1, ofNat_eq rfl]
    · rw [if_neg h1] at h
      by_cases h2 : b.toNat < 192
      · rw [if_pos h2] at h; simp only [Prod.mk.injEq] at h; omega
      · rw [if_neg h2] at h
        by_cases h3 : b.toNat < 224
        · rw [if_pos h3] at h
          match r, h with
          | [], h => simp only [Prod.mk.injEq] at h; omega
          | x :: r, h =>
            simp only at h
            split at h
            · rename_i hc
              simp only [Prod.mk.injEq] at h
              have hx := cont_iff.1 hc.1
              obtain ⟨rfl, rfl⟩ := h
              have hs : scalar ((b.toNat - 192) * 64 + (x.toNat - 128)) = true := scalar_iff.2 (by omega)
              refine key [b, x] r _ hs ?_
              unfold enc
              rw [if_neg (by simp [hs]), if_neg (by omega), if_pos (by omega), ofNat_eq (b := b) (by omega), ofNat_eq (b := x) (by omega)]
            · simp only [Prod.mk.injEq] at h; omega
        · rw [if_neg h3] at h
          by_cases h4 : b.toNat < 240
          · rw [if_pos h4] at h
            match r, h with
            | [], h => simp only [Prod.mk.injEq] at h; omega
            | [_], h => simp only [Prod.mk.injEq] at h; omega
            | x :: y :: r, h =>
              simp only at h
              split at h
              · rename_i hc
                simp only [Prod.mk.injEq] at h
                have hx := cont_iff.1 hc.1
                have hy := cont_iff.1 hc.2.1
                have hs := hc.2.2.2
                have h20 := hc.2.2.1
                obtain ⟨rfl, rfl⟩ := h
                refine key [b, x, y] r _ hs ?_
                unfold enc
                rw [if_neg (by simp [hs]), if_neg (by omega), if_neg (by omega), if_pos (by omega), ofNat_eq (b := b) (by omega), ofNat_eq (b := x) (by omega), ofNat_eq (b := y) (by omega)]
              · simp only [Prod.mk.injEq] at h; omega
          · rw [if_neg h4] at h
            by_cases h5 : b.toNat < 248
            · rw [if_pos h5] at h
              match r, h with
              | [], h => simp only [Prod.mk.injEq] at h; omega
              | [_], h => simp only [Prod.mk.injEq] at h; omega
              | [_, _], h => simp only [Prod.mk.injEq] at h; omega
              | x :: y :: z :: r, h =>
                simp only at h
                split at h
                · rename_i hc
                  simp only [Prod.mk.injEq] at h
                  have hx := cont_iff.1 hc.1
                  have hy := cont_iff.1 hc.2.1
                  have hz := cont_iff.1 hc.2.2.1
                  have hs := hc.2.2.2.2
                  have h20 := hc.2.2.2.1
                  obtain ⟨rfl, rfl⟩ := h
                  refine key [b, x, y, z] r _ hs ?_
                  unfold enc
                  rw [if_neg (by simp [hs]), if_neg (by omega), if_neg (by omega), if_neg (by omega), ofNat_eq (b := b) (by omega), ofNat_eq (b := x) (by omega), ofNat_eq (b := y) (by omega), ofNat_eq (b := z) (by omega)]
                · simp only [Prod.mk.injEq] at h; omega
            · rw [if_neg h5] at h; simp only [Prod.mk.injEq] at h; omega

theorem next_or (l : List UInt8) : next l = (0, 0) ∨ (next l).2 ≠ 0 := by
  cases l with
  | nil => exact .inl rfl
  | cons b r =>
    simp only [next]
    repeat' split
    all_goals first | exact .inr (Nat.succ_ne_zero _) | exact .inl rfl
theorem next_zero {l : List UInt8} (h : (next l).2 = 0) : next l = (0, 0) := (next_or l).resolve_right (fun hn => hn h)

/-- The scalars from a place on, each with its place; and where they end. -/
def scanF : Nat → List UInt8 → Nat → List (Nat × Nat) × Nat
  | 0, _, at_ => ([], at_)
  | k + 1, l, at_ => if (next l).2 = 0 then ([], at_) else ((at_, (next l).1) :: (scanF k (l.drop (next l).2) (at_ + (next l).2)).1, (scanF k (l.drop (next l).2) (at_ + (next l).2)).2)
def scan (l : List UInt8) (at_ : Nat) : List (Nat × Nat) × Nat := scanF (l.length + 1) l at_
def all (l : List UInt8) : List (Nat × Nat) := (scan l 0).1
def stop (l : List UInt8) : Nat := (scan l 0).2
def valid (l : List UInt8) : Bool := decide (stop l = l.length)

theorem next_le {l : List UInt8} : (next l).2 ≤ l.length := by
  by_cases h : (next l).2 = 0
  · omega
  · exact (next_some (l := l) (c := (next l).1) (n := (next l).2) rfl h).2.2.2
theorem scanF_fuel : ∀ (k m : Nat) (l : List UInt8) (p : Nat), l.length < k → l.length < m → scanF k l p = scanF m l p
  | 0, _, _, _, h, _ => by omega
  | _, 0, _, _, _, h => by omega
  | k + 1, m + 1, l, p, hk, hm => by
    unfold scanF
    by_cases h : (next l).2 = 0
    · rw [if_pos h, if_pos h]
    · have hl := next_le (l := l)
      rw [if_neg h, if_neg h, scanF_fuel k m (l.drop (next l).2) _ (by simp; omega) (by simp; omega)]
theorem scan_no {l : List UInt8} {p : Nat} (h : (next l).2 = 0) : scan l p = ([], p) := by unfold scan; rw [scanF, if_pos h]
theorem scan_ok {l : List UInt8} {p : Nat} (h : (next l).2 ≠ 0) : scan l p = ((p, (next l).1) :: (scan (l.drop (next l).2) (p + (next l).2)).1, (scan (l.drop (next l).2) (p + (next l).2)).2) := by
  have hl := next_le (l := l)
  unfold scan
  rw [scanF, if_neg h, scanF_fuel l.length ((l.drop (next l).2).length + 1) _ _ (by simp; omega) (by omega)]
theorem scan_nil (p : Nat) : scan [] p = ([], p) := scan_no rfl
theorem scan_stop : ∀ (k : Nat) (l : List UInt8) (p : Nat), l.length < k → p ≤ (scan l p).2 ∧ (scan l p).2 ≤ p + l.length
  | 0, _, _, h => by omega
  | k + 1, l, p, hk => by
    by_cases h : (next l).2 = 0
    · rw [scan_no h]; simp
    · have hl := next_le (l := l)
      have := scan_stop k (l.drop (next l).2) (p + (next l).2) (by simp; omega)
      rw [scan_ok h]
      simp only [List.length_drop] at this ⊢
      omega
end Go.Proofs.YtpoameaaoapiiaaDoor.Utf
