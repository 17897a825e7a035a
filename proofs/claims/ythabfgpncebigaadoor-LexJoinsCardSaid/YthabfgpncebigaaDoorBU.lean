/- UTF-8 in plain Lean: scalars, how they are written, and read. No program in sight. UTF-8 in plain Lean: texts, joined; their order. utf: what scalar and first compute. UTF-8 in plain Lean: how the program reads a scalar. utf: what next computes. utf: what walk, Bad, Valid compute. utf.All: the iterator's contract. Cells of pairs, worlds beside a range over a function: what tabulariumlaw02.told and others need. tabulariumlaw02.same; tabulariumref02.Put. UTF-8 in plain Lean: a scalar found by trying. utf.Put: how a scalar is written. (Printed by gen_utfput.py.) tabulariumref02.guess. (Printed by gen_guess.py.) tabulariumref02.One, Bad, Valid, All. -/
import GoSem.Op.String
import Derived.Test.YthabfgpncebigaaDoorChecked
import Derived.Test.YthabfgpncebigaaDoorBA
import Derived.Lib.Walk
import Derived.Lib.BitFns
import Derived.Lib.Strings
import Derived.Handy
import Derived.Laws.OwnMore
import Derived.Deep.DeepCutAuto
import Derived.Deep.RegionHeld3

/- UTF-8 in plain Lean: scalars, how they are written, and read. No program in sight. -/
namespace Go.Proofs.YthabfgpncebigaaDoor.Utf

def scalar (c : Nat) : Bool := decide (c < 1114112 ∧ (c < 55296 ∨ 57343 < c))

/-- How a scalar is written; of another number: nothing. -/
def enc (c : Nat) : List UInt8 :=
  if scalar c = false then []
  else if c < 128 then [UInt8.ofNat c]
  else if c < 2048 then [UInt8.ofNat (192 + c / 64), UInt8.ofNat (128 + c % 64)]
  else if c < 65536 then [UInt8.ofNat (224 + c / 4096), UInt8.ofNat (128 + c / 64 % 64), UInt8.ofNat (128 + c % 64)]
  else [UInt8.ofNat (240 + c / 262144), UInt8.ofNat (128 + c / 4096 % 64), UInt8.ofNat (128 + c / 64 % 64), UInt8.ofNat (128 + c % 64)]

def cont (b : UInt8) : Bool := decide (128 ≤ b.toNat ∧ b.toNat < 192)

/-- The scalar at the front, and how many bytes it has; (0, 0): there is none. -/
def next : List UInt8 → Nat × Nat
  | [] => (0, 0)
  | b :: r =>
    if b.toNat < 128 then (b.toNat, 1)
    else if b.toNat < 192 then (0, 0)
    else if b.toNat < 224 then
      match r with
      | x :: _ =>
        let c := (b.toNat - 192) * 64 + (x.toNat - 128)
        if cont x = true ∧ 128 ≤ c then (c, 2) else (0, 0)
      | _ => (0, 0)
    else if b.toNat < 240 then
      match r with
      | x :: y :: _ =>
        let c := (b.toNat - 224) * 4096 + (x.toNat - 128) * 64 + (y.toNat - 128)
        if cont x = true ∧ cont y = true ∧ 2048 ≤ c ∧ scalar c = true then (c, 3) else (0, 0)
      | _ => (0, 0)
    else if b.toNat < 248 then
      match r with
      | x :: y :: z :: _ =>
        let c := (b.toNat - 240) * 262144 + (x.toNat - 128) * 4096 + (y.toNat - 128) * 64 + (z.toNat - 128)
        if cont x = true ∧ cont y = true ∧ cont z = true ∧ 65536 ≤ c ∧ scalar c = true then (c, 4) else (0, 0)
      | _ => (0, 0)
    else (0, 0)

theorem scalar_iff {c : Nat} : scalar c = true ↔ c < 1114112 ∧ (c < 55296 ∨ 57343 < c) := by simp [scalar]
theorem cont_iff {b : UInt8} : cont b = true ↔ 128 ≤ b.toNat ∧ b.toNat < 192 := by simp [cont]
theorem toNat_ofNat {n : Nat} (h : n < 256) : (UInt8.ofNat n).toNat = n := by simp; omega
theorem ofNat_eq {n : Nat} {b : UInt8} (h : n = b.toNat) : UInt8.ofNat n = b := by subst h; simp

theorem enc_nil {c : Nat} : enc c = [] ↔ scalar c = false := by
  unfold enc
  constructor
  · intro h
    split at h
    · assumption
    · repeat' split at h
      all_goals simp at h
  · intro h; rw [if_pos h]
theorem enc_length {c : Nat} (h : scalar c = true) : (enc c).length = if c < 128 then 1 else if c < 2048 then 2 else if c < 65536 then 3 else 4 := by
  unfold enc
  rw [if_neg (by simp [h])]
  repeat' split
  all_goals rfl
theorem enc_length_le (c : Nat) : (enc c).length ≤ 4 := by
  unfold enc
  repeat' split
  all_goals simp

/-- What is written is read. -/
theorem next_enc {c : Nat} (h : scalar c = true) (r : List UInt8) : next (enc c ++ r) = (c, (enc c).length) := by
  have hs := scalar_iff.1 h
  by_cases h1 : c < 128
  · have e : enc c = [UInt8.ofNat c] := by unfold enc; rw [if_neg (by simp [h]), if_pos h1]
    rw [e]
    simp only [List.cons_append, List.nil_append, next, toNat_ofNat (show c < 256 by omega), if_pos h1, List.length_cons, List.length_nil]
  · by_cases h2 : c < 2048
    · have e : enc c = [UInt8.ofNat (192 + c / 64), UInt8.ofNat (128 + c % 64)] := by unfold enc; rw [if_neg (by simp [h]), if_neg h1, if_pos h2]
      rw [e]
      have e1 : (UInt8.ofNat (192 + c / 64)).toNat = 192 + c / 64 := toNat_ofNat (by omega)
      have e2 : (UInt8.ofNat (128 + c % 64)).toNat = 128 + c % 64 := toNat_ofNat (by omega)
      simp only [List.cons_append, List.nil_append, next, cont_iff, e1, e2]
      rw [if_neg (by omega), if_neg (by omega), if_pos (by omega), if_pos (by omega)]
      simp only [List.length_cons, List.length_nil, Prod.mk.injEq, and_true]
      omega
    · by_cases h3 : c < 65536
      · have e : enc c = [UInt8.ofNat (224 + c / 4096), UInt8.ofNat (128 + c / 64 % 64), UInt8.ofNat (128 + c % 64)] := by unfold enc; rw [if_neg (by simp [h]), if_neg h1, if_neg h2, if_pos h3]
        rw [e]
        have e1 : (UInt8.ofNat (224 + c / 4096)).toNat = 224 + c / 4096 := toNat_ofNat (by omega)
        have e2 : (UInt8.ofNat (128 + c / 64 % 64)).toNat = 128 + c / 64 % 64 := toNat_ofNat (by omega)
        have e3 : (UInt8.ofNat (128 + c % 64)).toNat = 128 + c % 64 := toNat_ofNat (by omega)
        have e4 : (224 + c / 4096 - 224) * 4096 + (128 + c / 64 % 64 - 128) * 64 + (128 + c % 64 - 128) = c := by omega
        simp only [List.cons_append, List.nil_append, next, cont_iff, e1, e2, e3, e4, h]
        rw [if_neg (by omega), if_neg (by omega), if_neg (by omega), if_pos (by omega), if_pos ⟨by omega, by omega, by omega, trivial⟩]
        simp
      · have e : enc c = [UInt8.ofNat (240 + c / 262144), UInt8.ofNat (128 + c / 4096 % 64), UInt8.ofNat (128 + c / 64 % 64), UInt8.ofNat (128 + c % 64)] := by unfold enc; rw [if_neg (by simp [h]), if_neg h1, if_neg h2, if_neg h3]
        rw [e]
        have e1 : (UInt8.ofNat (240 + c / 262144)).toNat = 240 + c / 262144 := toNat_ofNat (by omega)
        have e2 : (UInt8.ofNat (128 + c / 4096 % 64)).toNat = 128 + c / 4096 % 64 := toNat_ofNat (by omega)
        have e3 : (UInt8.ofNat (128 + c / 64 % 64)).toNat = 128 + c / 64 % 64 := toNat_ofNat (by omega)
        have e4 : (UInt8.ofNat (128 + c % 64)).toNat = 128 + c % 64 := toNat_ofNat (by omega)
        have e5 : (240 + c / 262144 - 240) * 262144 + (128 + c / 4096 % 64 - 128) * 4096 + (128 + c / 64 % 64 - 128) * 64 + (128 + c % 64 - 128) = c := by omega
        simp only [List.cons_append, List.nil_append, next, cont_iff, e1, e2, e3, e4, e5, h]
        rw [if_neg (by omega), if_neg (by omega), if_neg (by omega), if_neg (by omega), if_pos (by omega), if_pos ⟨by omega, by omega, by omega, by omega, trivial⟩]
        simp

/-- What is read was written so. -/
theorem next_some {l : List UInt8} {c n : Nat} (h : next l = (c, n)) (hn : n ≠ 0) : scalar c = true ∧ l.take n = enc c ∧ n = (enc c).length ∧ n ≤ l.length := by
  have key : ∀ (t r : List UInt8) (c : Nat), scalar c = true → enc c = t → scalar c = true ∧ (t ++ r).take t.length = enc c ∧ t.length = (enc c).length ∧ t.length ≤ (t ++ r).length := fun t r c hs he => ⟨hs, by rw [he]; simp, by rw [he], by simp⟩
  match l, h with
  | [], h => simp [next] at h; omega
  | b :: r, h =>
    have hb := b.toNat_lt
    simp only [next] at h
    by_cases h1 : b.toNat < 128
    · rw [if_pos h1] at h
      simp only [Prod.mk.injEq] at h
      obtain ⟨rfl, rfl⟩ := h
      have hs : scalar b.toNat = true := scalar_iff.2 (by omega)
      refine key [b] r _ hs ?_
      unfold enc
      rw [if_neg (by simp [hs]), if_pos h1, ofNat_eq rfl]
    · rw [if_neg h1] at h
      by_cases h2 : b.toNat < 192
      · rw [if_pos h2] at h; simp only [Prod.mk.injEq] at h; omega
      · rw [if_neg h2] at h
        by_cases h3 : b.toNat < 224
        · rw [if_pos h3] at h
          match r, h with
          | [], h => simp only [Prod.mk.injEq] at h; omega
          | x :: r, h =>
            simp only at h
            split at h
            · rename_i hc
              simp only [Prod.mk.injEq] at h
              have hx := cont_iff.1 hc.1
              obtain ⟨rfl, rfl⟩ := h
              have hs : scalar ((b.toNat - 192) * 64 + (x.toNat - 128)) = true := scalar_iff.2 (by omega)
              refine key [b, x] r _ hs ?_
              unfold enc
              rw [if_neg (by simp [hs]), if_neg (by omega), if_pos (by omega), ofNat_eq (b := b) (by omega), ofNat_eq (b := x) (by omega)]
            · simp only [Prod.mk.injEq] at h; omega
        · rw [if_neg h3] at h
          by_cases h4 : b.toNat < 240
          · rw [if_pos h4] at h
            match r, h with
            | [], h => simp only [Prod.mk.injEq] at h; omega
            | [_], h => simp only [Prod.mk.injEq] at h; omega
            | x :: y :: r, h =>
              simp only at h
              split at h
              · rename_i hc
                simp only [Prod.mk.injEq] at h
                have hx := cont_iff.1 hc.1
                have hy := cont_iff.1 hc.2.1
                have hs := hc.2.2.2
                have h20 := hc.2.2.1
                obtain ⟨rfl, rfl⟩ := h
                refine key [b, x, y] r _ hs ?_
                unfold enc
                rw [if_neg (by simp [hs]), if_neg (by omega), if_neg (by omega), if_pos (by omega), ofNat_eq (b := b) (by omega), ofNat_eq (b := x) (by omega), ofNat_eq (b := y) (by omega)]
              · simp only [Prod.mk.injEq] at h; omega
          · rw [if_neg h4] at h
            by_cases h5 : b.toNat < 248
            · rw [if_pos h5] at h
              match r, h with
              | [], h => simp only [Prod.mk.injEq] at h; omega
              | [_], h => simp only [Prod.mk.injEq] at h; omega
              | [_, _], h => simp only [Prod.mk.injEq] at h; omega
              | x :: y :: z :: r, h =>
                simp only at h
                split at h
                · rename_i hc
                  simp only [Prod.mk.injEq] at h
                  have hx := cont_iff.1 hc.1
                  have hy := cont_iff.1 hc.2.1
                  have hz := cont_iff.1 hc.2.2.1
                  have hs := hc.2.2.2.2
                  have h20 := hc.2.2.2.1
                  obtain ⟨rfl, rfl⟩ := h
                  refine key [b, x, y, z] r _ hs ?_
                  unfold enc
                  rw [if_neg (by simp [hs]), if_neg (by omega), if_neg (by omega), if_neg (by omega), ofNat_eq (b := b) (by omega), ofNat_eq (b := x) (by omega), ofNat_eq (b := y) (by omega), ofNat_eq (b := z) (by omega)]
                · simp only [Prod.mk.injEq] at h; omega
            · rw [if_neg h5] at h; simp only [Prod.mk.injEq] at h; omega

theorem next_or (l : List UInt8) : next l = (0, 0) ∨ (next l).2 ≠ 0 := by
  cases l with
  | nil => exact .inl rfl
  | cons b r =>
    simp only [next]
    repeat' split
    all_goals first | exact .inr (Nat.succ_ne_zero _) | exact .inl rfl
theorem next_zero {l : List UInt8} (h : (next l).2 = 0) : next l = (0, 0) := (next_or l).resolve_right (fun hn => hn h)

/-- The scalars from a place on, each with its place; and where they end. -/
def scanF : Nat → List UInt8 → Nat → List (Nat × Nat) × Nat
  | 0, _, at_ => ([], at_)
  | k + 1, l, at_ => if (next l).2 = 0 then ([], at_) else ((at_, (next l).1) :: (scanF k (l.drop (next l).2) (at_ + (next l).2)).1, (scanF k (l.drop (next l).2) (at_ + (next l).2)).2)
def scan (l : List UInt8) (at_ : Nat) : List (Nat × Nat) × Nat := scanF (l.length + 1) l at_
def all (l : List UInt8) : List (Nat × Nat) := (scan l 0).1
def stop (l : List UInt8) : Nat := (scan l 0).2
def valid (l : List UInt8) : Bool := decide (stop l = l.length)

theorem next_le {l : List UInt8} : (next l).2 ≤ l.length := by
  by_cases h : (next l).2 = 0
  · omega
  · exact (next_some (l := l) (c := (next l).1) (n := (next l).2) rfl h).2.2.2
theorem scanF_fuel : ∀ (k m : Nat) (l : List UInt8) (p : Nat), l.length < k → l.length < m → scanF k l p = scanF m l p
  | 0, _, _, _, h, _ => by omega
  | _, 0, _, _, _, h => by omega
  | k + 1, m + 1, l, p, hk, hm => by
    unfold scanF
    by_cases h : (next l).2 = 0
    · rw [if_pos h, if_pos h]
    · have hl := next_le (l := l)
      rw [if_neg h, if_neg h, scanF_fuel k m (l.drop (next l).2) _ (by simp; omega) (by simp; omega)]
theorem scan_no {l : List UInt8} {p : Nat} (h : (next l).2 = 0) : scan l p = ([], p) := by unfold scan; rw [scanF, if_pos h]
theorem scan_ok {l : List UInt8} {p : Nat} (h : (next l).2 ≠ 0) : scan l p = ((p, (next l).1) :: (scan (l.drop (next l).2) (p + (next l).2)).1, (scan (l.drop (next l).2) (p + (next l).2)).2) := by
  have hl := next_le (l := l)
  unfold scan
  rw [scanF, if_neg h, scanF_fuel l.length ((l.drop (next l).2).length + 1) _ _ (by simp; omega) (by omega)]
theorem scan_nil (p : Nat) : scan [] p = ([], p) := scan_no rfl
theorem scan_stop : ∀ (k : Nat) (l : List UInt8) (p : Nat), l.length < k → p ≤ (scan l p).2 ∧ (scan l p).2 ≤ p + l.length
  | 0, _, _, h => by omega
  | k + 1, l, p, hk => by
    by_cases h : (next l).2 = 0
    · rw [scan_no h]; simp
    · have hl := next_le (l := l)
      have := scan_stop k (l.drop (next l).2) (p + (next l).2) (by simp; omega)
      rw [scan_ok h]
      simp only [List.length_drop] at this ⊢
      omega
end Go.Proofs.YthabfgpncebigaaDoor.Utf

/- UTF-8 in plain Lean: texts, joined; their order. -/
namespace Go.Proofs.YthabfgpncebigaaDoor.Utf
open Go.Op

theorem bl_lt {a b : UInt8} {x y : List UInt8} (h : a.toNat < b.toNat) : bytesLess (a :: x) (b :: y) = true := by
  simp only [bytesLess, Bool.or_eq_true, decide_eq_true_eq]
  exact .inl (UInt8.lt_iff_toNat_lt.2 h)
theorem bl_gt {a b : UInt8} {x y : List UInt8} (h : b.toNat < a.toNat) : bytesLess (a :: x) (b :: y) = false := by
  have h1 : ¬ a < b := fun e => by have := UInt8.lt_iff_toNat_lt.1 e; omega
  have h2 : (a == b) = false := by simp only [beq_eq_false_iff_ne]; rintro rfl; omega
  simp [bytesLess, h1, h2]
theorem bl_eq (a : UInt8) (x y : List UInt8) : bytesLess (a :: x) (a :: y) = bytesLess x y := by
  have h1 : ¬ a < a := fun e => by have := UInt8.lt_iff_toNat_lt.1 e; omega
  simp [bytesLess, h1]
theorem bl_app : ∀ (p x y : List UInt8), bytesLess (p ++ x) (p ++ y) = bytesLess x y
  | [], _, _ => rfl
  | a :: p, x, y => by rw [List.cons_append, List.cons_append, bl_eq]; exact bl_app p x y

/-- l is before m, and m is not before l. -/
def Before (l m : List UInt8) : Prop := bytesLess l m = true ∧ bytesLess m l = false
theorem before_lt {a b : UInt8} {x y : List UInt8} (h : a.toNat < b.toNat) : Before (a :: x) (b :: y) := ⟨bl_lt h, bl_gt h⟩
theorem before_eq {a b : UInt8} {x y : List UInt8} (e : a.toNat = b.toNat) (h : Before x y) : Before (a :: x) (b :: y) := by
  obtain rfl : a = b := UInt8.toNat_inj.1 e
  exact ⟨by rw [bl_eq]; exact h.1, by rw [bl_eq]; exact h.2⟩
theorem before_ne {l m : List UInt8} (h : Before l m) : l ≠ m := by
  intro e
  subst e
  have h1 := h.1
  rw [h.2] at h1
  cases h1

theorem before_enc {c d : Nat} (hc : scalar c = true) (hd : scalar d = true) (h : c < d) (u v : List UInt8) : Before (enc c ++ u) (enc d ++ v) := by
  have sc := scalar_iff.1 hc
  have sd := scalar_iff.1 hd
  have e1 : ∀ n : Nat, n < 256 → (UInt8.ofNat n).toNat = n := fun n hn => toNat_ofNat hn
  unfold enc
  rw [if_neg (show ¬ scalar c = false by simp [hc]), if_neg (show ¬ scalar d = false by simp [hd])]
  by_cases c1 : c < 128
  · rw [if_pos c1]
    by_cases d1 : d < 128
    · rw [if_pos d1]; exact before_lt (by rw [e1 _ (by omega), e1 _ (by omega)]; exact h)
    · rw [if_neg d1]
      by_cases d2 : d < 2048
      · rw [if_pos d2]; exact before_lt (by rw [e1 _ (by omega), e1 _ (by omega)]; omega)
      · rw [if_neg d2]
        by_cases d3 : d < 65536
        · rw [if_pos d3]; exact before_lt (by rw [e1 _ (by omega), e1 _ (by omega)]; omega)
        · rw [if_neg d3]; exact before_lt (by rw [e1 _ (by omega), e1 _ (by omega)]; omega)
  · rw [if_neg c1]
    by_cases c2 : c < 2048
    · rw [if_pos c2, if_neg (show ¬ d < 128 by omega)]
      by_cases d2 : d < 2048
      · rw [if_pos d2]
        rcases Nat.lt_or_ge (c / 64) (d / 64) with g | g
        · exact before_lt (by rw [e1 _ (by omega), e1 _ (by omega)]; omega)
        · exact before_eq (by rw [e1 _ (by omega), e1 _ (by omega)]; omega) (before_lt (by rw [e1 _ (by omega), e1 _ (by omega)]; omega))
      · rw [if_neg d2]
        by_cases d3 : d < 65536
        · rw [if_pos d3]; exact before_lt (by rw [e1 _ (by omega), e1 _ (by omega)]; omega)
        · rw [if_neg d3]; exact before_lt (by rw [e1 _ (by omega), e1 _ (by omega)]; omega)
    · rw [if_neg c2, if_neg (show ¬ d < 128 by omega), if_neg (show ¬ d < 2048 by omega)]
      by_cases c3 : c < 65536
      · rw [if_pos c3]
        by_cases d3 : d < 65536
        · rw [if_pos d3]
          rcases Nat.lt_or_ge (c / 4096) (d / 4096) with g | g
          · exact before_lt (by rw [e1 _ (by omega), e1 _ (by omega)]; omega)
          · refine before_eq (by rw [e1 _ (by omega), e1 _ (by omega)]; omega) ?_
            rcases Nat.lt_or_ge (c / 64) (d / 64) with g2 | g2
            · exact before_lt (by rw [e1 _ (by omega), e1 _ (by omega)]; omega)
            · exact before_eq (by rw [e1 _ (by omega), e1 _ (by omega)]; omega) (before_lt (by rw [e1 _ (by omega), e1 _ (by omega)]; omega))
        · rw [if_neg d3]; exact before_lt (by rw [e1 _ (by omega), e1 _ (by omega)]; omega)
      · rw [if_neg c3, if_neg (show ¬ d < 65536 by omega)]
        rcases Nat.lt_or_ge (c / 262144) (d / 262144) with g | g
        · exact before_lt (by rw [e1 _ (by omega), e1 _ (by omega)]; omega)
        · refine before_eq (by rw [e1 _ (by omega), e1 _ (by omega)]; omega) ?_
          rcases Nat.lt_or_ge (c / 4096) (d / 4096) with g2 | g2
          · exact before_lt (by rw [e1 _ (by omega), e1 _ (by omega)]; omega)
          · refine before_eq (by rw [e1 _ (by omega), e1 _ (by omega)]; omega) ?_
            rcases Nat.lt_or_ge (c / 64) (d / 64) with g3 | g3
            · exact before_lt (by rw [e1 _ (by omega), e1 _ (by omega)]; omega)
            · exact before_eq (by rw [e1 _ (by omega), e1 _ (by omega)]; omega) (before_lt (by rw [e1 _ (by omega), e1 _ (by omega)]; omega))

/-- The scalars alone. -/
def codes (l : List UInt8) : List Nat := (all l).map (·.2)

theorem valid_cases {l : List UInt8} {p : Nat} (h : (scan l p).2 = p + l.length) : l = [] ∨ ∃ c r, scalar c = true ∧ l = enc c ++ r ∧ next l = (c, (enc c).length) ∧ 1 ≤ (enc c).length ∧
    scan l p = ((p, c) :: (scan r (p + (enc c).length)).1, (scan r (p + (enc c).length)).2) ∧ (scan r (p + (enc c).length)).2 = p + (enc c).length + r.length := by
  by_cases hz : (next l).2 = 0
  · rw [scan_no hz] at h
    have h' : p = p + l.length := h
    exact .inl (List.eq_nil_of_length_eq_zero (by omega))
  · refine .inr ⟨(next l).1, l.drop (next l).2, ?_⟩
    obtain ⟨h1, h2, h3, h4⟩ := next_some (l := l) (c := (next l).1) (n := (next l).2) rfl hz
    rw [scan_ok hz] at h ⊢
    refine ⟨h1, by rw [← h2, List.take_append_drop], by rw [← h3], by omega, by rw [h3], ?_⟩
    rw [← h3]
    simp only [List.length_drop] at h ⊢
    omega
theorem valid_ind {motive : List UInt8 → Nat → Prop} (h0 : ∀ p, motive [] p)
    (h1 : ∀ c r p, scalar c = true → (scan (enc c ++ r) p = ((p, c) :: (scan r (p + (enc c).length)).1, (scan r (p + (enc c).length)).2)) → (scan r (p + (enc c).length)).2 = p + (enc c).length + r.length → motive r (p + (enc c).length) → motive (enc c ++ r) p) :
    ∀ (k : Nat) (l : List UInt8) (p : Nat), l.length < k → (scan l p).2 = p + l.length → motive l p
  | 0, _, _, hk, _ => by omega
  | k + 1, l, p, hk, h => by
    rcases valid_cases h with rfl | ⟨c, r, hs, rfl, hn, hl, hsc, hr⟩
    · exact h0 p
    · exact h1 c r p hs hsc hr (valid_ind h0 h1 k r _ (by simp at hk; omega) hr)

/-- Two texts, one behind the other. -/
theorem scan_app (a b : List UInt8) (p : Nat) (h : (scan a p).2 = p + a.length) : scan (a ++ b) p = ((scan a p).1 ++ (scan b (p + a.length)).1, (scan b (p + a.length)).2) := by
  refine valid_ind (motive := fun a p => scan (a ++ b) p = ((scan a p).1 ++ (scan b (p + a.length)).1, (scan b (p + a.length)).2)) ?_ ?_ _ a p (Nat.lt_succ_self _) h
  · intro p; simp [scan_nil]
  · intro c r p hs hsc hr ih
    have hn := next_enc hs (r ++ b)
    have hl : (enc c).length ≠ 0 := fun e => by
      rw [List.length_eq_zero_iff, enc_nil, hs] at e
      cases e
    rw [hsc, List.append_assoc, scan_ok (by rw [hn]; exact hl), hn]
    simp only [List.drop_left']
    rw [ih]
    simp only [List.cons_append, List.length_append, Nat.add_assoc]

theorem scan_length : ∀ (k : Nat) (l : List UInt8) (p : Nat), l.length < k → (scan l p).1.length ≤ l.length
  | 0, _, _, h => by omega
  | k + 1, l, p, hk => by
    by_cases h : (next l).2 = 0
    · rw [scan_no h]; exact Nat.zero_le _
    · have hl := next_le (l := l)
      have := scan_length k (l.drop (next l).2) (p + (next l).2) (by simp; omega)
      rw [scan_ok h, List.length_cons]
      simp only [List.length_drop] at this
      omega
theorem all_length (l : List UInt8) : (all l).length ≤ l.length := scan_length _ l 0 (Nat.lt_succ_self _)

/-- Where a scan begins makes no difference but to the places. -/
theorem scan_shift : ∀ (k : Nat) (l : List UInt8) (p q : Nat), l.length < k → (scan l (p + q)).1 = (scan l p).1.map (fun x => (x.1 + q, x.2)) ∧ (scan l (p + q)).2 = (scan l p).2 + q
  | 0, _, _, _, h => by omega
  | k + 1, l, p, q, hk => by
    by_cases h : (next l).2 = 0
    · rw [scan_no h, scan_no h]; simp
    · have hl := next_le (l := l)
      have ih := scan_shift k (l.drop (next l).2) (p + (next l).2) q (by simp; omega)
      rw [scan_ok h, scan_ok h, show p + q + (next l).2 = p + (next l).2 + q by omega]
      simp only [List.map_cons, ih.1, ih.2, and_self]

theorem valid_iff {l : List UInt8} : valid l = true ↔ (scan l 0).2 = 0 + l.length := by
  rw [Nat.zero_add]
  exact ⟨fun h => of_decide_eq_true h, fun h => decide_eq_true h⟩

/-- Two texts are in order as their scalars are. -/
theorem order_same (a : List UInt8) (p : Nat) (ha' : (scan a p).2 = p + a.length) : ∀ {b : List UInt8} {q : Nat}, (scan b q).2 = q + b.length → (∀ i, (hi : i < (scan a p).1.length) → (hj : i < (scan b q).1.length) → (scan a p).1[i].2 = (scan b q).1[i].2) →
    (bytesLess a b = decide ((scan a p).1.length < (scan b q).1.length)) ∧ (decide (a = b) = decide ((scan a p).1.length = (scan b q).1.length)) := by
  refine valid_ind (motive := fun a p => ∀ {b : List UInt8} {q : Nat}, (scan b q).2 = q + b.length → (∀ i, (hi : i < (scan a p).1.length) → (hj : i < (scan b q).1.length) → (scan a p).1[i].2 = (scan b q).1[i].2) →
    (bytesLess a b = decide ((scan a p).1.length < (scan b q).1.length)) ∧ (decide (a = b) = decide ((scan a p).1.length = (scan b q).1.length))) ?_ ?_ _ a p (Nat.lt_succ_self _) ha'
  · intro p b q hb _
    rcases valid_cases hb with rfl | ⟨c, r, hs, rfl, hn, hl, hsc, hr⟩
    · simp [scan_nil, bytesLess]
    · rw [hsc, scan_nil]
      have hne : enc c ++ r ≠ [] := by intro e; simp at e; rw [e.1] at hl; simp at hl
      obtain ⟨x, t, ht⟩ := List.exists_cons_of_ne_nil hne
      rw [ht]
      simp [bytesLess]
  · intro c r p hs hsc hr ih b q hb heq
    rcases valid_cases hb with rfl | ⟨d, t, hd, rfl, hn, hl, hsd, ht⟩
    · rw [hsc, scan_nil]
      have hne : enc c ++ r ≠ [] := by intro e; simp at e; exact absurd e.1 (by intro e2; rw [enc_nil] at e2; rw [hs] at e2; cases e2)
      obtain ⟨x, u, hu⟩ := List.exists_cons_of_ne_nil hne
      rw [hu]
      simp [bytesLess]
    · have h0 := heq 0 (by rw [hsc]; simp) (by rw [hsd]; simp)
      simp only [hsc, hsd, List.getElem_cons_zero] at h0
      subst h0
      have ih2 := ih ht (fun i hi hj => by
        have := heq (i + 1) (by rw [hsc]; simpa using hi) (by rw [hsd]; simpa using hj)
        simpa only [hsc, hsd, List.getElem_cons_succ] using this)
      rw [hsc, hsd, bl_app]
      simp only [List.length_cons, Nat.add_lt_add_iff_right, Nat.add_right_cancel_iff, List.append_cancel_left_eq]
      exact ih2
theorem order_step {a b : List UInt8} (ha : valid a = true) (hb : valid b = true)
    (h : ∀ i, (hi : i < (all a).length) → (hj : i < (all b).length) → (all a)[i].2 = (all b)[i].2) :
    (bytesLess a b = decide ((all a).length < (all b).length)) ∧ (decide (a = b) = decide ((all a).length = (all b).length)) :=
  order_same a 0 (valid_iff.1 ha) (valid_iff.1 hb) h

theorem order_diff (a : List UInt8) (p : Nat) (ha' : (scan a p).2 = p + a.length) : ∀ {b : List UInt8} {q : Nat} (i : Nat) (hi : i < (scan a p).1.length) (hj : i < (scan b q).1.length), (∀ j, (h : j < i) → (scan a p).1[j].2 = (scan b q).1[j].2) → (scan a p).1[i].2 ≠ (scan b q).1[i].2 → (scan b q).2 = q + b.length →
    bytesLess a b = decide ((scan a p).1[i].2 < (scan b q).1[i].2) ∧ a ≠ b := by
  refine valid_ind (motive := fun a p => ∀ {b : List UInt8} {q : Nat} (i : Nat) (hi : i < (scan a p).1.length) (hj : i < (scan b q).1.length), (∀ j, (h : j < i) → (scan a p).1[j].2 = (scan b q).1[j].2) → (scan a p).1[i].2 ≠ (scan b q).1[i].2 → (scan b q).2 = q + b.length →
    bytesLess a b = decide ((scan a p).1[i].2 < (scan b q).1[i].2) ∧ a ≠ b) ?_ ?_ _ a p (Nat.lt_succ_self _) ha'
  · intro p b q i hi
    simp [scan_nil] at hi
  · intro c r p hs hsc hr ih b q i hi hj heq hne hb
    rcases valid_cases hb with rfl | ⟨d, t, hd, rfl, hn, hl, hsd, ht⟩
    · simp [scan_nil] at hj
    · match i with
      | 0 =>
        simp only [hsc, hsd, List.getElem_cons_zero] at hne ⊢
        rcases Nat.lt_or_ge c d with g | g
        · have := before_enc hs hd g r t
          exact ⟨by rw [this.1]; simp [g], before_ne this⟩
        · have := before_enc hd hs (show d < c by omega) t r
          exact ⟨by rw [this.2]; simp; omega, (before_ne this).symm⟩
      | i + 1 =>
        have h0 := heq 0 (by omega)
        simp only [hsc, hsd, List.getElem_cons_zero] at h0
        subst h0
        simp only [hsc, hsd, List.length_cons, Nat.add_lt_add_iff_right] at hi hj
        simp only [hsc, hsd, List.getElem_cons_succ] at hne ⊢
        have := ih i hi hj (fun j h => by
          have := heq (j + 1) (by omega)
          simpa only [hsc, hsd, List.getElem_cons_succ] using this) hne ht
        rw [bl_app]
        exact ⟨this.1, fun e => this.2 (List.append_cancel_left e)⟩
theorem order_first {a b : List UInt8} (ha : valid a = true) (hb : valid b = true) (i : Nat) (hi : i < (all a).length) (hj : i < (all b).length)
    (heq : ∀ j, (h : j < i) → (all a)[j].2 = (all b)[j].2) (hne : (all a)[i].2 ≠ (all b)[i].2) :
    bytesLess a b = decide ((all a)[i].2 < (all b)[i].2) ∧ a ≠ b :=
  order_diff a 0 (valid_iff.1 ha) i hi hj heq hne (valid_iff.1 hb)
end Go.Proofs.YthabfgpncebigaaDoor.Utf

/- utf: what scalar and first compute. -/
namespace Go.Proofs.YthabfgpncebigaaDoor
open Go.RowKit

/-- Is a number a scalar? -/
def scalarI (c : Int) : Bool := decide (0 ≤ c) && Utf.scalar c.toNat
theorem scalarI_nat (c : Nat) : scalarI (c : Int) = Utf.scalar c := by simp [scalarI]
theorem scalarI_eq (c : Int) : scalarI c = decide (0 ≤ c ∧ c < 1114112 ∧ (c < 55296 ∨ 57343 < c)) := by
  rw [Bool.eq_iff_iff]
  simp only [scalarI, Utf.scalar, Bool.and_eq_true, decide_eq_true_eq]
  omega
set_option maxHeartbeats 400000 in
set_option maxRecDepth 100000 in
theorem scalar_any (c : Int) (w : World) : Calls Tryd.prog 107 #[.int .i64 c] w fun e w' => e = .returned (.bool (scalarI c)) ∧ w = w' := by
  go_enter Tryd.func107, Tryd.ntmps107
  go_wp2
  all_goals (go_ret; refine ⟨congrArg Ending.returned (congrArg Value.bool ?_), rfl⟩)
  all_goals (rw [scalarI_eq])
  · rw [← Bool.decide_or, decide_eq_decide]; omega
  · exact (decide_eq_true (by omega)).symm
  · exact (decide_eq_false (by omega)).symm
  · exact (decide_eq_false (by omega)).symm

/-- The form of a first byte: which one, and is there one. -/
def firstK (b : Nat) : Nat := if 240 ≤ b ∧ b < 248 then 3 else if 224 ≤ b ∧ b < 240 then 2 else if 192 ≤ b ∧ b < 224 then 1 else 0
def firstOk (b : Nat) : Bool := decide (b < 128 ∨ 192 ≤ b ∧ b < 248)
def formAt (k : Nat) : Value := .agg #[.int .i64 (formsL.getD (3 * k) 0), .int .i64 (formsL.getD (3 * k + 1) 0), .int .i64 (formsL.getD (3 * k + 2) 0)]
theorem first_bits : ∀ b : Fin 256, (bits .and .i64 (b.val : Int) (bits .or .i64 240 120) == 240) = decide (240 ≤ b.val ∧ b.val < 248) ∧
    (bits .and .i64 (b.val : Int) (bits .or .i64 224 112) == 224) = decide (224 ≤ b.val ∧ b.val < 240) ∧ (bits .and .i64 (b.val : Int) (bits .or .i64 192 96) == 192) = decide (192 ≤ b.val ∧ b.val < 224) := by decide +kernel
set_option maxHeartbeats 1000000 in
set_option maxRecDepth 100000 in
theorem first_any (b : Nat) (w : World) (hb : b < 256) (hF : Forms w) : Calls Tryd.prog 113 #[.int .i64 b] w fun e w' =>
    e = .returned (.tuple #[formAt (firstK b), .bool (firstOk b)]) ∧ Below w.heap.size w w' := by
  have hG := hF.1
  (obtain ⟨hGa, hGb, hGc, hGd, hGe, hGf⟩ := glob_facts hG; simp only [Nat.reduceSub] at hGb hGc)
  obtain ⟨t3, t2, t1⟩ := first_bits ⟨b, hb⟩
  simp only at t3 t2 t1
  have f := fun j hj => hF.2 j hj
  have f0 := f 0 (by omega)
  have f1 := f 1 (by omega)
  have f2 := f 2 (by omega)
  have f3 := f 3 (by omega)
  have f4 := f 4 (by omega)
  have f5 := f 5 (by omega)
  have f6 := f 6 (by omega)
  have f7 := f 7 (by omega)
  have f8 := f 8 (by omega)
  have f9 := f 9 (by omega)
  have f10 := f 10 (by omega)
  have f11 := f 11 (by omega)
  simp only [formsL, List.getD_cons_zero, List.getD_cons_succ] at f0 f1 f2 f3 f4 f5 f6 f7 f8 f9 f10 f11
  clear f
  go_enter Tryd.func113, Tryd.ntmps113
  go_wp2
  go_rounds 5
  all_goals (go_returns; try (refine ⟨?_, by go_grown⟩))
  · rw [show firstK b = 3 by unfold firstK; repeat' split
                             all_goals omega, show firstOk b = true by unfold firstOk; exact decide_eq_true (by omega)]; rfl
  · rw [show firstK b = 2 by unfold firstK; repeat' split
                             all_goals omega, show firstOk b = true by unfold firstOk; exact decide_eq_true (by omega)]; rfl
  · rw [show firstK b = 1 by unfold firstK; repeat' split
                             all_goals omega, show firstOk b = true by unfold firstOk; exact decide_eq_true (by omega)]; rfl
  · rw [show firstK b = 0 by unfold firstK; repeat' split
                             all_goals omega, show firstOk b = decide ((b : Int) < 128) by unfold firstOk; rw [decide_eq_decide]; omega]; rfl
end Go.Proofs.YthabfgpncebigaaDoor

/- UTF-8 in plain Lean: how the program reads a scalar. -/
namespace Go.Proofs.YthabfgpncebigaaDoor.Utf

theorem cont_low {x : UInt8} (h : cont x = true) : x.toNat % 64 = x.toNat - 128 := by have := cont_iff.1 h; omega
theorem next_one {b : UInt8} {r : List UInt8} (h : b.toNat < 128) : next (b :: r) = (b.toNat, 1) := by simp only [next, if_pos h]
theorem next_not {b : UInt8} {r : List UInt8} (h : firstOk b.toNat = false) : next (b :: r) = (0, 0) := by
  simp only [firstOk, decide_eq_false_iff_not] at h
  simp only [next]
  rw [if_neg (by omega)]
  by_cases h1 : b.toNat < 192
  · rw [if_pos h1]
  · rw [if_neg h1, if_neg (by omega), if_neg (by omega), if_neg (by omega)]
theorem next_short {b : UInt8} {r : List UInt8} (h : r.length < firstK b.toNat) : next (b :: r) = (0, 0) := by
  unfold firstK at h
  simp only [next]
  split at h
  · rw [if_neg (by omega), if_neg (by omega), if_neg (by omega), if_neg (by omega), if_pos (by omega)]
    match r, h with
    | [], _ => rfl
    | [_], _ => rfl
    | [_, _], _ => rfl
    | _ :: _ :: _ :: _, h => simp at h; omega
  · split at h
    · rw [if_neg (by omega), if_neg (by omega), if_neg (by omega), if_pos (by omega)]
      match r, h with
      | [], _ => rfl
      | [_], _ => rfl
      | _ :: _ :: _, h => simp at h; omega
    · split at h
      · rw [if_neg (by omega), if_neg (by omega), if_pos (by omega)]
        match r, h with
        | [], _ => rfl
        | _ :: _, h => simp at h
      · omega
theorem next_two {b x : UInt8} {r : List UInt8} (hb : 192 ≤ b.toNat ∧ b.toNat < 224) :
    next (b :: x :: r) = if cont x = true ∧ 128 ≤ (b.toNat - 192) * 64 + x.toNat % 64 ∧ scalar ((b.toNat - 192) * 64 + x.toNat % 64) = true then ((b.toNat - 192) * 64 + x.toNat % 64, 2) else (0, 0) := by
  simp only [next]
  rw [if_neg (by omega), if_neg (by omega), if_pos (by omega)]
  by_cases hc : cont x = true
  · have e := cont_low hc
    have hs : scalar ((b.toNat - 192) * 64 + x.toNat % 64) = true := scalar_iff.2 (by omega)
    rw [← e]
    simp only [hc, hs, true_and, and_true]
  · rw [if_neg (fun h => hc h.1), if_neg (fun h => hc h.1)]
theorem next_three {b x y : UInt8} {r : List UInt8} (hb : 224 ≤ b.toNat ∧ b.toNat < 240) :
    next (b :: x :: y :: r) = if cont x = true ∧ cont y = true ∧ 2048 ≤ ((b.toNat - 224) * 64 + x.toNat % 64) * 64 + y.toNat % 64 ∧ scalar (((b.toNat - 224) * 64 + x.toNat % 64) * 64 + y.toNat % 64) = true then (((b.toNat - 224) * 64 + x.toNat % 64) * 64 + y.toNat % 64, 3) else (0, 0) := by
  simp only [next]
  rw [if_neg (by omega), if_neg (by omega), if_neg (by omega), if_pos (by omega)]
  by_cases hc : cont x = true
  · by_cases hd : cont y = true
    · have e := cont_low hc
      have f := cont_low hd
      have g : ((b.toNat - 224) * 64 + x.toNat % 64) * 64 + y.toNat % 64 = (b.toNat - 224) * 4096 + (x.toNat - 128) * 64 + (y.toNat - 128) := by omega
      rw [g]
    · rw [if_neg (fun h => hd h.2.1), if_neg (fun h => hd h.2.1)]
  · rw [if_neg (fun h => hc h.1), if_neg (fun h => hc h.1)]
theorem next_four {b x y z : UInt8} {r : List UInt8} (hb : 240 ≤ b.toNat ∧ b.toNat < 248) :
    next (b :: x :: y :: z :: r) = if cont x = true ∧ cont y = true ∧ cont z = true ∧ 65536 ≤ (((b.toNat - 240) * 64 + x.toNat % 64) * 64 + y.toNat % 64) * 64 + z.toNat % 64 ∧ scalar ((((b.toNat - 240) * 64 + x.toNat % 64) * 64 + y.toNat % 64) * 64 + z.toNat % 64) = true then ((((b.toNat - 240) * 64 + x.toNat % 64) * 64 + y.toNat % 64) * 64 + z.toNat % 64, 4) else (0, 0) := by
  simp only [next]
  rw [if_neg (by omega), if_neg (by omega), if_neg (by omega), if_neg (by omega), if_pos (by omega)]
  by_cases hc : cont x = true
  · by_cases hd : cont y = true
    · by_cases he : cont z = true
      · have e := cont_low hc
        have f := cont_low hd
        have k := cont_low he
        have g : (((b.toNat - 240) * 64 + x.toNat % 64) * 64 + y.toNat % 64) * 64 + z.toNat % 64 = (b.toNat - 240) * 262144 + (x.toNat - 128) * 4096 + (y.toNat - 128) * 64 + (z.toNat - 128) := by omega
        rw [g]
      · rw [if_neg (fun h => he h.2.2.1), if_neg (fun h => he h.2.2.1)]
    · rw [if_neg (fun h => hd h.2.1), if_neg (fun h => hd h.2.1)]
  · rw [if_neg (fun h => hc h.1), if_neg (fun h => hc h.1)]
end Go.Proofs.YthabfgpncebigaaDoor.Utf

/- utf: what next computes. -/
namespace Go.Proofs.YthabfgpncebigaaDoor
open Go.RowKit

theorem formAt_0 : formAt 0 = .agg #[.int .i64 128, .int .i64 0, .int .i64 0] := rfl
theorem formAt_1 : formAt 1 = .agg #[.int .i64 2048, .int .i64 192, .int .i64 1] := rfl
theorem formAt_2 : formAt 2 = .agg #[.int .i64 65536, .int .i64 224, .int .i64 2] := rfl
theorem formAt_3 : formAt 3 = .agg #[.int .i64 1114112, .int .i64 240, .int .i64 3] := rfl
theorem and192 : ∀ n : Fin 256, (bits .and .u8 (n.val : Int) 192 != 128) = !(decide (128 ≤ n.val ∧ n.val < 192)) := by decide +kernel
theorem and63 : ∀ n : Fin 256, bits .and .u8 (n.val : Int) 63 = ((n.val % 64 : Nat) : Int) := by decide +kernel
theorem andnot : ∀ n : Fin 256, (192 ≤ n.val → n.val < 224 → bits .andNot .i64 (n.val : Int) 192 = ((n.val - 192 : Nat) : Int)) ∧ (224 ≤ n.val → n.val < 240 → bits .andNot .i64 (n.val : Int) 224 = ((n.val - 224 : Nat) : Int)) ∧
    (240 ≤ n.val → n.val < 248 → bits .andNot .i64 (n.val : Int) 240 = ((n.val - 240 : Nat) : Int)) ∧ bits .andNot .i64 (n.val : Int) 0 = (n.val : Int) := by decide +kernel

theorem i64_or_nat (a b : Nat) (ha : a < 9223372036854775808) (hb : b < 9223372036854775808) : bits .or .i64 (a : Int) (b : Int) = ((a ||| b : Nat) : Int) := by
  have hx : a ||| b < 2 ^ 63 := Nat.or_lt_two_pow (by omega) (by omega)
  show IntKind.i64.wrap ((BitVec.ofInt 64 (a : Int) ||| BitVec.ofInt 64 (b : Int)).toNat : Int) = _
  rw [BitVec.toNat_or, ofInt_u64 a (by omega), ofInt_u64 b (by omega), IntWalk.i64_in _ (by omega)]
theorem or6 (u x : Nat) (hu : u < 1048576) : bits .or .i64 ((u : Int) * 64) ((x : Int) % 64) = ((u * 64 + x % 64 : Nat) : Int) := by
  have e1 : (u : Int) * 64 = ((u * 64 : Nat) : Int) := by simp
  have e2 : (x : Int) % 64 = ((x % 64 : Nat) : Int) := by simp
  rw [e1, e2, i64_or_nat _ _ (by omega) (by omega)]
  congr 1
  rw [show u * 64 = u * 2 ^ 6 from rfl, ← Nat.shiftLeft_eq, Nat.shiftLeft_add_eq_or_of_lt (by omega)]
theorem next_out {c n : Int} {t : Nat × Nat} (h1 : c = t.1) (h2 : n = t.2) : Ending.returned (.tuple #[.int .i64 c, .int .i64 n]) = .returned (.tuple #[.int .i64 t.1, .int .i64 t.2]) := by rw [h1, h2]

set_option maxHeartbeats 1000000 in
set_option maxRecDepth 100000 in
theorem next_w2 (b x : UInt8) (l r : List UInt8) (w : World) (hF : Forms w) (hl : l = b :: x :: r) (hb : 192 ≤ b.toNat ∧ b.toNat < 224) : Calls Tryd.prog 108 #[.string (str l)] w fun e w' =>
    e = .returned (.tuple #[.int .i64 (Utf.next l).1, .int .i64 (Utf.next l).2]) ∧ Below w.heap.size w w' := by
  have HN := Lib.hid (Utf.next_two (x := x) (r := r) hb)
  rw [← hl] at HN
  have h0 : nth l 0 = (b.toNat : Int) := by rw [hl]; rfl
  have h1 : nth l 1 = (x.toNat : Int) := by rw [hl]; rfl
  have hlen : 2 ≤ l.length := by rw [hl]; simp
  have hne : (l == []) = false := by rw [hl]; rfl
  have hfk : firstK b.toNat = 1 := by unfold firstK; repeat' split
                                      all_goals omega
  have hfo : firstOk b.toNat = true := by unfold firstOk; exact decide_eq_true (by omega)
  have hx1 := x.toNat_lt
  have hcx1 : (bits .and .u8 (x.toNat : Int) 192 != 128) = !(Utf.cont x) := and192 ⟨x.toNat, hx1⟩
  have h631 := and63 ⟨x.toNat, hx1⟩
  have hand := (andnot ⟨b.toNat, by omega⟩).1 hb.1 hb.2
  simp only at hand h631
  clear hl
  generalize Utf.cont x = C1 at *
  generalize b.toNat = b0 at *
  generalize x.toNat = b1 at *
  have hu : b0 - 192 < 32 := by omega
  generalize b0 - 192 = u at *
  have ho1 := or6 u b1 (by omega)
  have hv1 : u * 64 + b1 % 64 < 2048 := by omega
  generalize u * 64 + b1 % 64 = v1 at *
  go_enter Tryd.func108, Tryd.ntmps108
  go_wp2_with fail
  refine (first_any b0 _ (by omega) hF).mono ?_
  rintro e w' ⟨rfl, hB⟩
  have hG := (hF.below hB).1
  (obtain ⟨hGa, hGb, hGc, hGd, hGe, hGf⟩ := glob_facts hG; simp only [Nat.reduceSub] at hGb hGc)
  have f0 := (hF.below hB).2 0 (by omega)
  have f1 := (hF.below hB).2 1 (by omega)
  have f2 := (hF.below hB).2 2 (by omega)
  simp only [formsL, List.getD_cons_zero, List.getD_cons_succ] at f0 f1 f2
  rw [hfk, hfo, formAt_1]
  go_wp2
  go_quiet (fail)
  go_wp2
  clear hfk hfo hand h0
  cases C1
  · go_rounds 3
    go_returns
    refine ⟨next_out ?_ ?_, (by repeat' (first | exact hB | refine below_drewN ?_ _ | refine Below.alloc ?_ ?_ _ | (have := hB.size; simp; omega)))⟩
    all_goals (rw [HN.out, if_neg (by simp)]; rfl)
  go_rounds 3
  by_cases hc0 : v1 < 128
  · go_rounds 3
    go_returns
    refine ⟨next_out ?_ ?_, (by repeat' (first | exact hB | refine below_drewN ?_ _ | refine Below.alloc ?_ ?_ _ | (have := hB.size; simp; omega)))⟩
    all_goals (rw [HN.out, if_neg (by omega)]; rfl)
  refine wp_loop_rounds 3 ?_
  rw [rounds_succ]
  go_wp2
  rw [rounds_succ]
  go_wp2_with fail
  refine (scalar_any _ _).mono ?_
  rintro e w' ⟨rfl, rfl⟩
  have hS := scalarI_nat v1
  by_cases hs : Utf.scalar v1 = true
  · rw [hs] at hS
    rw [hS]
    go_wp2
    go_quiet (fail)
    go_wp2
    go_returns
    refine ⟨next_out ?_ ?_, (by repeat' (first | exact hB | refine below_drewN ?_ _ | refine Below.alloc ?_ ?_ _ | (have := hB.size; simp; omega)))⟩
    all_goals (rw [HN.out, if_pos ⟨by trivial, by omega, hs⟩]; try rfl)
  · rw [Bool.not_eq_true] at hs
    rw [hs] at hS
    rw [hS]
    go_wp2
    go_returns
    refine ⟨next_out ?_ ?_, (by repeat' (first | exact hB | refine below_drewN ?_ _ | refine Below.alloc ?_ ?_ _ | (have := hB.size; simp; omega)))⟩
    all_goals (rw [HN.out, if_neg (by rw [hs]; simp)]; rfl)
set_option maxHeartbeats 1000000 in
set_option maxRecDepth 100000 in
theorem next_w3 (b x y : UInt8) (l r : List UInt8) (w : World) (hF : Forms w) (hl : l = b :: x :: y :: r) (hb : 224 ≤ b.toNat ∧ b.toNat < 240) : Calls Tryd.prog 108 #[.string (str l)] w fun e w' =>
    e = .returned (.tuple #[.int .i64 (Utf.next l).1, .int .i64 (Utf.next l).2]) ∧ Below w.heap.size w w' := by
  have HN := Lib.hid (Utf.next_three (x := x) (y := y) (r := r) hb)
  rw [← hl] at HN
  have h0 : nth l 0 = (b.toNat : Int) := by rw [hl]; rfl
  have h1 : nth l 1 = (x.toNat : Int) := by rw [hl]; rfl
  have h2 : nth l 2 = (y.toNat : Int) := by rw [hl]; rfl
  have hlen : 3 ≤ l.length := by rw [hl]; simp
  have hne : (l == []) = false := by rw [hl]; rfl
  have hfk : firstK b.toNat = 2 := by unfold firstK; repeat' split
                                      all_goals omega
  have hfo : firstOk b.toNat = true := by unfold firstOk; exact decide_eq_true (by omega)
  have hx1 := x.toNat_lt
  have hcx1 : (bits .and .u8 (x.toNat : Int) 192 != 128) = !(Utf.cont x) := and192 ⟨x.toNat, hx1⟩
  have h631 := and63 ⟨x.toNat, hx1⟩
  have hx2 := y.toNat_lt
  have hcx2 : (bits .and .u8 (y.toNat : Int) 192 != 128) = !(Utf.cont y) := and192 ⟨y.toNat, hx2⟩
  have h632 := and63 ⟨y.toNat, hx2⟩
  have hand := (andnot ⟨b.toNat, by omega⟩).2.1 hb.1 hb.2
  simp only at hand h631 h632
  clear hl
  generalize Utf.cont x = C1 at *
  generalize Utf.cont y = C2 at *
  generalize b.toNat = b0 at *
  generalize x.toNat = b1 at *
  generalize y.toNat = b2 at *
  have hu : b0 - 224 < 16 := by omega
  generalize b0 - 224 = u at *
  have ho1 := or6 u b1 (by omega)
  have hv1 : u * 64 + b1 % 64 < 1024 := by omega
  generalize u * 64 + b1 % 64 = v1 at *
  have ho2 := or6 v1 b2 (by omega)
  have hv2 : v1 * 64 + b2 % 64 < 65536 := by omega
  generalize v1 * 64 + b2 % 64 = v2 at *
  go_enter Tryd.func108, Tryd.ntmps108
  go_wp2_with fail
  refine (first_any b0 _ (by omega) hF).mono ?_
  rintro e w' ⟨rfl, hB⟩
  have hG := (hF.below hB).1
  (obtain ⟨hGa, hGb, hGc, hGd, hGe, hGf⟩ := glob_facts hG; simp only [Nat.reduceSub] at hGb hGc)
  have f0 := (hF.below hB).2 0 (by omega)
  have f1 := (hF.below hB).2 1 (by omega)
  have f2 := (hF.below hB).2 2 (by omega)
  have f3 := (hF.below hB).2 3 (by omega)
  have f4 := (hF.below hB).2 4 (by omega)
  have f5 := (hF.below hB).2 5 (by omega)
  simp only [formsL, List.getD_cons_zero, List.getD_cons_succ] at f0 f1 f2 f3 f4 f5
  rw [hfk, hfo, formAt_2]
  go_wp2
  go_quiet (fail)
  go_wp2
  clear hfk hfo hand h0
  cases C1
  · go_rounds 4
    go_returns
    refine ⟨next_out ?_ ?_, (by repeat' (first | exact hB | refine below_drewN ?_ _ | refine Below.alloc ?_ ?_ _ | (have := hB.size; simp; omega)))⟩
    all_goals (rw [HN.out, if_neg (by simp)]; rfl)
  cases C2
  · go_rounds 4
    go_returns
    refine ⟨next_out ?_ ?_, (by repeat' (first | exact hB | refine below_drewN ?_ _ | refine Below.alloc ?_ ?_ _ | (have := hB.size; simp; omega)))⟩
    all_goals (rw [HN.out, if_neg (by simp)]; rfl)
  go_rounds 4
  by_cases hc0 : v2 < 128
  · go_rounds 4
    go_returns
    refine ⟨next_out ?_ ?_, (by repeat' (first | exact hB | refine below_drewN ?_ _ | refine Below.alloc ?_ ?_ _ | (have := hB.size; simp; omega)))⟩
    all_goals (rw [HN.out, if_neg (by omega)]; rfl)
  by_cases hc1 : v2 < 2048
  · go_rounds 4
    go_returns
    refine ⟨next_out ?_ ?_, (by repeat' (first | exact hB | refine below_drewN ?_ _ | refine Below.alloc ?_ ?_ _ | (have := hB.size; simp; omega)))⟩
    all_goals (rw [HN.out, if_neg (by omega)]; rfl)
  refine wp_loop_rounds 4 ?_
  rw [rounds_succ]
  go_wp2
  rw [rounds_succ]
  go_wp2
  rw [rounds_succ]
  go_wp2_with fail
  refine (scalar_any _ _).mono ?_
  rintro e w' ⟨rfl, rfl⟩
  have hS := scalarI_nat v2
  by_cases hs : Utf.scalar v2 = true
  · rw [hs] at hS
    rw [hS]
    go_wp2
    go_quiet (fail)
    go_wp2
    go_returns
    refine ⟨next_out ?_ ?_, (by repeat' (first | exact hB | refine below_drewN ?_ _ | refine Below.alloc ?_ ?_ _ | (have := hB.size; simp; omega)))⟩
    all_goals (rw [HN.out, if_pos ⟨by trivial, by trivial, by omega, hs⟩]; try rfl)
  · rw [Bool.not_eq_true] at hs
    rw [hs] at hS
    rw [hS]
    go_wp2
    go_returns
    refine ⟨next_out ?_ ?_, (by repeat' (first | exact hB | refine below_drewN ?_ _ | refine Below.alloc ?_ ?_ _ | (have := hB.size; simp; omega)))⟩
    all_goals (rw [HN.out, if_neg (by rw [hs]; simp)]; rfl)
set_option maxHeartbeats 1000000 in
set_option maxRecDepth 1000000 in
theorem next_w4 (b x y z : UInt8) (l r : List UInt8) (w : World) (hF : Forms w) (hl : l = b :: x :: y :: z :: r) (hb : 240 ≤ b.toNat ∧ b.toNat < 248) : Calls Tryd.prog 108 #[.string (str l)] w fun e w' =>
    e = .returned (.tuple #[.int .i64 (Utf.next l).1, .int .i64 (Utf.next l).2]) ∧ Below w.heap.size w w' := by
  have HN := Lib.hid (Utf.next_four (x := x) (y := y) (z := z) (r := r) hb)
  rw [← hl] at HN
  have h0 : nth l 0 = (b.toNat : Int) := by rw [hl]; rfl
  have h1 : nth l 1 = (x.toNat : Int) := by rw [hl]; rfl
  have h2 : nth l 2 = (y.toNat : Int) := by rw [hl]; rfl
  have h3 : nth l 3 = (z.toNat : Int) := by rw [hl]; rfl
  have hlen : 4 ≤ l.length := by rw [hl]; simp
  have hne : (l == []) = false := by rw [hl]; rfl
  have hfk : firstK b.toNat = 3 := by unfold firstK; repeat' split
                                      all_goals omega
  have hfo : firstOk b.toNat = true := by unfold firstOk; exact decide_eq_true (by omega)
  have hx1 := x.toNat_lt
  have hcx1 : (bits .and .u8 (x.toNat : Int) 192 != 128) = !(Utf.cont x) := and192 ⟨x.toNat, hx1⟩
  have h631 := and63 ⟨x.toNat, hx1⟩
  have hx2 := y.toNat_lt
  have hcx2 : (bits .and .u8 (y.toNat : Int) 192 != 128) = !(Utf.cont y) := and192 ⟨y.toNat, hx2⟩
  have h632 := and63 ⟨y.toNat, hx2⟩
  have hx3 := z.toNat_lt
  have hcx3 : (bits .and .u8 (z.toNat : Int) 192 != 128) = !(Utf.cont z) := and192 ⟨z.toNat, hx3⟩
  have h633 := and63 ⟨z.toNat, hx3⟩
  have hand := (andnot ⟨b.toNat, by omega⟩).2.2.1 hb.1 hb.2
  simp only at hand h631 h632 h633
  clear hl
  generalize Utf.cont x = C1 at *
  generalize Utf.cont y = C2 at *
  generalize Utf.cont z = C3 at *
  generalize b.toNat = b0 at *
  generalize x.toNat = b1 at *
  generalize y.toNat = b2 at *
  generalize z.toNat = b3 at *
  have hu : b0 - 240 < 8 := by omega
  generalize b0 - 240 = u at *
  have ho1 := or6 u b1 (by omega)
  have hv1 : u * 64 + b1 % 64 < 512 := by omega
  generalize u * 64 + b1 % 64 = v1 at *
  have ho2 := or6 v1 b2 (by omega)
  have hv2 : v1 * 64 + b2 % 64 < 32768 := by omega
  generalize v1 * 64 + b2 % 64 = v2 at *
  have ho3 := or6 v2 b3 (by omega)
  have hv3 : v2 * 64 + b3 % 64 < 2097152 := by omega
  generalize v2 * 64 + b3 % 64 = v3 at *
  go_enter Tryd.func108, Tryd.ntmps108
  go_wp2_with fail
  refine (first_any b0 _ (by omega) hF).mono ?_
  rintro e w' ⟨rfl, hB⟩
  have hG := (hF.below hB).1
  (obtain ⟨hGa, hGb, hGc, hGd, hGe, hGf⟩ := glob_facts hG; simp only [Nat.reduceSub] at hGb hGc)
  have f0 := (hF.below hB).2 0 (by omega)
  have f1 := (hF.below hB).2 1 (by omega)
  have f2 := (hF.below hB).2 2 (by omega)
  have f3 := (hF.below hB).2 3 (by omega)
  have f4 := (hF.below hB).2 4 (by omega)
  have f5 := (hF.below hB).2 5 (by omega)
  have f6 := (hF.below hB).2 6 (by omega)
  have f7 := (hF.below hB).2 7 (by omega)
  have f8 := (hF.below hB).2 8 (by omega)
  simp only [formsL, List.getD_cons_zero, List.getD_cons_succ] at f0 f1 f2 f3 f4 f5 f6 f7 f8
  rw [hfk, hfo, formAt_3]
  go_wp2
  go_quiet (fail)
  go_wp2
  clear hfk hfo hand h0
  cases C1
  · go_rounds 5
    go_returns
    refine ⟨next_out ?_ ?_, (by repeat' (first | exact hB | refine below_drewN ?_ _ | refine Below.alloc ?_ ?_ _ | (have := hB.size; simp; omega)))⟩
    all_goals (rw [HN.out, if_neg (by simp)]; rfl)
  cases C2
  · go_rounds 5
    go_returns
    refine ⟨next_out ?_ ?_, (by repeat' (first | exact hB | refine below_drewN ?_ _ | refine Below.alloc ?_ ?_ _ | (have := hB.size; simp; omega)))⟩
    all_goals (rw [HN.out, if_neg (by simp)]; rfl)
  cases C3
  · go_rounds 5
    go_returns
    refine ⟨next_out ?_ ?_, (by repeat' (first | exact hB | refine below_drewN ?_ _ | refine Below.alloc ?_ ?_ _ | (have := hB.size; simp; omega)))⟩
    all_goals (rw [HN.out, if_neg (by simp)]; rfl)
  go_rounds 5
  by_cases hc0 : v3 < 128
  · go_rounds 5
    go_returns
    refine ⟨next_out ?_ ?_, (by repeat' (first | exact hB | refine below_drewN ?_ _ | refine Below.alloc ?_ ?_ _ | (have := hB.size; simp; omega)))⟩
    all_goals (rw [HN.out, if_neg (by omega)]; rfl)
  by_cases hc1 : v3 < 2048
  · go_rounds 5
    go_returns
    refine ⟨next_out ?_ ?_, (by repeat' (first | exact hB | refine below_drewN ?_ _ | refine Below.alloc ?_ ?_ _ | (have := hB.size; simp; omega)))⟩
    all_goals (rw [HN.out, if_neg (by omega)]; rfl)
  by_cases hc2 : v3 < 65536
  · go_rounds 5
    go_returns
    refine ⟨next_out ?_ ?_, (by repeat' (first | exact hB | refine below_drewN ?_ _ | refine Below.alloc ?_ ?_ _ | (have := hB.size; simp; omega)))⟩
    all_goals (rw [HN.out, if_neg (by omega)]; rfl)
  refine wp_loop_rounds 5 ?_
  rw [rounds_succ]
  go_wp2
  rw [rounds_succ]
  go_wp2
  rw [rounds_succ]
  go_wp2
  rw [rounds_succ]
  go_wp2_with fail
  refine (scalar_any _ _).mono ?_
  rintro e w' ⟨rfl, rfl⟩
  have hS := scalarI_nat v3
  by_cases hs : Utf.scalar v3 = true
  · rw [hs] at hS
    rw [hS]
    go_wp2
    go_quiet (fail)
    go_wp2
    go_returns
    refine ⟨next_out ?_ ?_, (by repeat' (first | exact hB | refine below_drewN ?_ _ | refine Below.alloc ?_ ?_ _ | (have := hB.size; simp; omega)))⟩
    all_goals (rw [HN.out, if_pos ⟨by trivial, by trivial, by trivial, by omega, hs⟩]; try rfl)
  · rw [Bool.not_eq_true] at hs
    rw [hs] at hS
    rw [hS]
    go_wp2
    go_returns
    refine ⟨next_out ?_ ?_, (by repeat' (first | exact hB | refine below_drewN ?_ _ | refine Below.alloc ?_ ?_ _ | (have := hB.size; simp; omega)))⟩
    all_goals (rw [HN.out, if_neg (by rw [hs]; simp)]; rfl)
set_option maxHeartbeats 1000000 in
set_option maxRecDepth 100000 in
theorem next_nil (w : World) : Calls Tryd.prog 108 #[.string (str [])] w fun e w' =>
    e = .returned (.tuple #[.int .i64 (Utf.next []).1, .int .i64 (Utf.next []).2]) ∧ Below w.heap.size w w' := by
  go_enter Tryd.func108, Tryd.ntmps108
  go_wp2
  go_returns
  exact ⟨rfl, Below.refl _ _⟩
set_option maxHeartbeats 1000000 in
set_option maxRecDepth 100000 in
theorem next_wn (b : UInt8) (l r : List UInt8) (w : World) (hF : Forms w) (hl : l = b :: r) (hfo : firstOk b.toNat = false) : Calls Tryd.prog 108 #[.string (str l)] w fun e w' =>
    e = .returned (.tuple #[.int .i64 (Utf.next l).1, .int .i64 (Utf.next l).2]) ∧ Below w.heap.size w w' := by
  have HN := Lib.hid (Utf.next_not (r := r) hfo)
  rw [← hl] at HN
  have h0 : nth l 0 = (b.toNat : Int) := by rw [hl]; rfl
  have hlen : 1 ≤ l.length := by rw [hl]; simp
  have hne : (l == []) = false := by rw [hl]; rfl
  have hfk : firstK b.toNat = 0 := by
    simp only [firstOk, decide_eq_false_iff_not] at hfo
    unfold firstK; repeat' split
    all_goals omega
  have hb := b.toNat_lt
  clear hl
  generalize b.toNat = b0 at *
  go_enter Tryd.func108, Tryd.ntmps108
  go_wp2_with fail
  refine (first_any b0 _ (by omega) hF).mono ?_
  rintro e w' ⟨rfl, hB⟩
  rw [hfk, hfo, formAt_0]
  go_wp2
  go_returns
  refine ⟨next_out ?_ ?_, (by repeat' (first | exact hB | refine below_drewN ?_ _ | refine Below.alloc ?_ ?_ _ | (have := hB.size; simp; omega)))⟩
  all_goals (rw [HN.out]; rfl)
set_option maxHeartbeats 1000000 in
set_option maxRecDepth 100000 in
theorem next_ws (b : UInt8) (k : Nat) (l r : List UInt8) (w : World) (hF : Forms w) (hl : l = b :: r) (hfo : firstOk b.toNat = true) (hfk : firstK b.toNat = k) (hk : r.length < k) : Calls Tryd.prog 108 #[.string (str l)] w fun e w' =>
    e = .returned (.tuple #[.int .i64 (Utf.next l).1, .int .i64 (Utf.next l).2]) ∧ Below w.heap.size w w' := by
  have HN := Lib.hid (Utf.next_short (b := b) (r := r) (by omega))
  rw [← hl] at HN
  have h0 : nth l 0 = (b.toNat : Int) := by rw [hl]; rfl
  have hlen : 1 ≤ l.length := by rw [hl]; simp
  have hlen2 : l.length ≤ k := by rw [hl, List.length_cons]; omega
  have hne : (l == []) = false := by rw [hl]; rfl
  have hk3 : k ≤ 3 := by rw [← hfk]; unfold firstK; repeat' split
                         all_goals omega
  have hb := b.toNat_lt
  clear hl
  generalize b.toNat = b0 at *
  go_enter Tryd.func108, Tryd.ntmps108
  go_wp2_with fail
  refine (first_any b0 _ (by omega) hF).mono ?_
  rintro e w' ⟨rfl, hB⟩
  have hG := hB.size
  rw [hfk, hfo]
  obtain rfl | rfl | rfl : k = 1 ∨ k = 2 ∨ k = 3 := by omega
  all_goals clear hfk
  · rw [formAt_1]
    go_wp2
    go_returns
    refine ⟨next_out ?_ ?_, (by repeat' (first | exact hB | refine below_drewN ?_ _ | refine Below.alloc ?_ ?_ _ | (have := hB.size; simp; omega)))⟩
    all_goals (rw [HN.out]; rfl)
  · rw [formAt_2]
    go_wp2
    go_returns
    refine ⟨next_out ?_ ?_, (by repeat' (first | exact hB | refine below_drewN ?_ _ | refine Below.alloc ?_ ?_ _ | (have := hB.size; simp; omega)))⟩
    all_goals (rw [HN.out]; rfl)
  · rw [formAt_3]
    go_wp2
    go_returns
    refine ⟨next_out ?_ ?_, (by repeat' (first | exact hB | refine below_drewN ?_ _ | refine Below.alloc ?_ ?_ _ | (have := hB.size; simp; omega)))⟩
    all_goals (rw [HN.out]; rfl)
set_option maxHeartbeats 1000000 in
set_option maxRecDepth 100000 in
theorem next_w1 (b : UInt8) (l r : List UInt8) (w : World) (hF : Forms w) (hl : l = b :: r) (hb : b.toNat < 128) : Calls Tryd.prog 108 #[.string (str l)] w fun e w' =>
    e = .returned (.tuple #[.int .i64 (Utf.next l).1, .int .i64 (Utf.next l).2]) ∧ Below w.heap.size w w' := by
  have HN := Lib.hid (Utf.next_one (r := r) hb)
  rw [← hl] at HN
  have h0 : nth l 0 = (b.toNat : Int) := by rw [hl]; rfl
  have hlen : 1 ≤ l.length := by rw [hl]; simp
  have hne : (l == []) = false := by rw [hl]; rfl
  have hnn : l ≠ [] := by rw [hl]; simp
  have hfk : firstK b.toNat = 0 := by
    unfold firstK; repeat' split
    all_goals omega
  have hfo : firstOk b.toNat = true := by unfold firstOk; exact decide_eq_true (by omega)
  have hand := (andnot ⟨b.toNat, by omega⟩).2.2.2
  simp only at hand
  clear hl
  generalize b.toNat = b0 at *
  go_enter Tryd.func108, Tryd.ntmps108
  go_wp2_with fail
  refine (first_any b0 _ (by omega) hF).mono ?_
  rintro e w' ⟨rfl, hB⟩
  rw [hfk, hfo, formAt_0]
  have hG := (hF.below hB).1
  (obtain ⟨hGa, hGb, hGc, hGd, hGe, hGf⟩ := glob_facts hG; simp only [Nat.reduceSub] at hGb hGc)
  have hS := scalarI_nat b0
  have hs : Utf.scalar b0 = true := Utf.scalar_iff.2 (by omega)
  rw [hs] at hS
  go_wp2
  go_quiet (fail)
  go_wp2
  clear hfk hfo hand h0
  refine wp_loop_rounds 2 ?_
  rw [rounds_succ]
  go_wp2
  refine wp_loop_rounds 2 ?_
  rw [rounds_succ]
  go_wp2_with fail
  refine (scalar_any _ _).mono ?_
  rintro e w' ⟨rfl, rfl⟩
  rw [hS]
  go_wp2
  go_quiet (fail)
  go_wp2
  go_returns
  refine ⟨next_out ?_ ?_, (by repeat' (first | exact hB | refine below_drewN ?_ _ | refine Below.alloc ?_ ?_ _ | (have := hB.size; simp; omega)))⟩
  all_goals (rw [HN.out]; try rfl)

theorem next_any (l : List UInt8) (w : World) (hF : Forms w) : Calls Tryd.prog 108 #[.string (str l)] w fun e w' =>
    e = .returned (.tuple #[.int .i64 (Utf.next l).1, .int .i64 (Utf.next l).2]) ∧ Below w.heap.size w w' := by
  match l with
  | [] => exact next_nil w
  | b :: r =>
    cases hfo : firstOk b.toNat with
    | false => exact next_wn b _ r w hF rfl hfo
    | true =>
      by_cases hs : r.length < firstK b.toNat
      · exact next_ws b _ _ r w hF rfl hfo rfl hs
      · simp only [firstOk, decide_eq_true_eq] at hfo
        by_cases h1 : b.toNat < 128
        · exact next_w1 b _ r w hF rfl h1
        · by_cases h2 : b.toNat < 224
          · have hk : firstK b.toNat = 1 := by unfold firstK; repeat' split
                                               all_goals omega
            rw [hk] at hs
            match r, hs with
            | x :: r, _ => exact next_w2 b x _ r w hF rfl (by omega)
            | [], hs => simp at hs
          · by_cases h3 : b.toNat < 240
            · have hk : firstK b.toNat = 2 := by unfold firstK; repeat' split
                                                 all_goals omega
              rw [hk] at hs
              match r, hs with
              | x :: y :: r, _ => exact next_w3 b x y _ r w hF rfl (by omega)
              | [_], hs => simp at hs
              | [], hs => simp at hs
            · have hk : firstK b.toNat = 3 := by unfold firstK; repeat' split
                                                 all_goals omega
              rw [hk] at hs
              match r, hs with
              | x :: y :: z :: r, _ => exact next_w4 b x y z _ r w hF rfl (by omega)
              | [_, _], hs => simp at hs
              | [_], hs => simp at hs
              | [], hs => simp at hs
end Go.Proofs.YthabfgpncebigaaDoor

/- utf: what walk, Bad, Valid compute. -/
namespace Go.Proofs.YthabfgpncebigaaDoor
open Go.RowKit

set_option maxHeartbeats 1000000 in
set_option maxRecDepth 100000 in
theorem badf_any (a c : Int) (w : World) : Calls Tryd.prog 96 #[.int .i64 a, .int .i64 c] w fun e w' => e = .returned (.bool true) ∧ w = w' := by
  go_enter Tryd.func96, Tryd.ntmps96
  go_wp2
  go_ret
  exact ⟨rfl, rfl⟩
set_option maxHeartbeats 1000000 in
set_option maxRecDepth 100000 in
theorem walk_plain (l : List UInt8) (w : World) (hF : Forms w) (hl : l.length ≤ 4611686018427387904) : Calls Tryd.prog 95 #[.string (str l), .func (.func 96) #[] #[]] w fun e w' =>
    e = .returned (.int .i64 (Utf.stop l)) ∧ Below w.heap.size w w' := by
  go_enter Tryd.func95, Tryd.ntmps95
  go_wp2
  go_loopw [5] (fun av wr => ∃ p : Nat, av = .int .i64 p ∧ p ≤ l.length ∧ Below w.heap.size w wr ∧ Hid (Utf.stop l = (Utf.scan (l.drop p) p).2)) (fun av _ => l.length - (intOf av).toNat)
  case atStart => exact ⟨0, rfl, by omega, Below.refl _ _, rfl⟩
  case round =>
    obtain ⟨p, rfl, hp, hB, HS⟩ := hrel
    by_cases hlt : p < l.length
    · have hFw := hF.below hB
      obtain ⟨c, n, hn⟩ : ∃ c n, Utf.next (l.drop p) = (c, n) := ⟨_, _, rfl⟩
      have hcon := next_any (l.drop p) wr hFw
      rw [hn] at hcon
      have HN := Lib.hid hn
      have hle := Utf.next_le (l := l.drop p)
      rw [hn, List.length_drop] at hle
      simp only at hle
      clear hn
      by_cases hz : n = 0
      · subst hz
        go_wp2_with fail
        refine hcon.mono ?_
        rintro e w2 ⟨rfl, hB2⟩
        go_wp2
        go_ret
        refine ⟨congrArg Ending.returned (congrArg (Value.int IntKind.i64) ?_), hB.trans (hB2.mono hB.size)⟩
        have h1 := HS.out
        rw [Utf.scan_no (by rw [HN.out])] at h1
        rw [h1]
      · have hzb : ((n : Int) == 0) = false := by simp; omega
        go_wp2_with fail
        refine hcon.mono ?_
        rintro e w2 ⟨rfl, hB2⟩
        go_wp2_with fail
        refine (badf_any _ _ _).mono ?_
        rintro e w3 ⟨rfl, rfl⟩
        go_wp2
        go_roundw
        case rel =>
          refine ⟨p + n, by simp, by omega, hB.trans (hB2.mono hB.size), ?_⟩
          have h1 := HS.out
          rw [Utf.scan_ok (by rw [HN.out]; exact hz), HN.out, List.drop_drop] at h1
          exact h1
        case measure => simp [intOf]; omega
    · go_wp2
      go_ret
      refine ⟨congrArg Ending.returned (congrArg (Value.int IntKind.i64) ?_), hB⟩
      have h1 := HS.out
      rw [List.drop_eq_nil_of_le (by omega), Utf.scan_nil] at h1
      rw [h1]
/-- The first place that is no text's. -/
def badI (l : List UInt8) : Int := if Utf.valid l = true then -1 else (Utf.stop l : Int)
theorem badI_eq (l : List UInt8) : badI l = if Utf.stop l = l.length then -1 else (Utf.stop l : Int) := by
  unfold badI Utf.valid
  by_cases h : Utf.stop l = l.length
  · rw [if_pos h, if_pos (decide_eq_true h)]
  · rw [if_neg h, if_neg (by rw [decide_eq_true_eq]; exact h)]
set_option maxHeartbeats 1000000 in
set_option maxRecDepth 100000 in
theorem bad_any (l : List UInt8) (w : World) (hF : Forms w) (hl : l.length ≤ 4611686018427387904) : Calls Tryd.prog 74 #[.string (str l)] w fun e w' =>
    e = .returned (.int .i64 (badI l)) ∧ Below w.heap.size w w' := by
  have hcon := walk_plain l w hF hl
  have HV : Hid (badI l = if Utf.stop l = l.length then -1 else (Utf.stop l : Int)) := badI_eq l
  generalize badI l = ans at *
  generalize Utf.stop l = st at *
  go_enter Tryd.func74, Tryd.ntmps74
  go_wp2_with fail
  refine hcon.mono ?_
  rintro e w' ⟨rfl, hB⟩
  by_cases hs : st = l.length
  · have hb : ((st : Int) == (l.length : Int)) = true := by rw [hs]; simp
    go_wp2
    go_ret
    refine ⟨?_, hB⟩
    rw [HV.out, if_pos hs]; rfl
  · have hb : ((st : Int) == (l.length : Int)) = false := by simp; omega
    go_wp2
    go_ret
    refine ⟨?_, hB⟩
    rw [HV.out, if_neg hs]; rfl
end Go.Proofs.YthabfgpncebigaaDoor

/- utf.All: the iterator's contract. -/
namespace Go.Proofs.YthabfgpncebigaaDoor
open Go.RowKit

attribute [local go_sem] Oper.semAt_some

/-- How a scalar and its place are handed to yield. -/
def encS (x : Nat × Nat) : Array Value := #[.int .i64 x.1, .int .i64 x.2]

theorem Forms.kept {w w' : World} (h : Forms w) (hs : w.heap.size ≤ w'.heap.size) (hk : w'.heap[3]? = w.heap[3]?) : Forms w' :=
  ⟨Nat.lt_of_lt_of_le h.1 hs, fun j hj => (World.cell?_of_block (a := ⟨3, j, none⟩) hk).trans (h.2 j hj)⟩
theorem ext_of_below {T : Nat → Prop} {A B : World} (h : Below A.heap.size A B) : Ext T A B := Ext.of_below h

set_option maxRecDepth 100000 in
set_option maxHeartbeats 1000000 in
theorem walk_seq (n : Nat) (l : List UInt8) (T K : Nat → Prop) (W : World) (hn : 2 ≤ n) (hF : Forms W) (hl : l.length ≤ 4611686018427387904) (lp : Nat) (J Jx : List (Nat × Nat) → World → Prop)
    (hK : ∀ k, k = 3 → K k)
    (hJ : ∀ s A B, J s A → Ext T A B → J s B)
    (hY : ∀ pre x W1, J pre W1 → YieldAt Fence.wide (n - 1) Tryd.prog lp (encS x) W1 fun e W' =>
      (e = .returned (.bool true) ∧ J (pre ++ [x]) W' ∧ KKeeps K W1 W') ∨ (e = .returned (.bool false) ∧ Jx (pre ++ [x]) W' ∧ KKeeps K W1 W')) (h0 : J [] W) :
    CallsIn Fence.wide n Tryd.prog 95 #[.string (str l), .func (.yield lp) #[] #[]] W fun e W' => (∃ v, e = .returned v) ∧ ((∃ xs, xs = Utf.all l ∧ J xs W') ∨ (∃ pre, pre <+: Utf.all l ∧ Jx pre W')) := by
  have hn1 : 1 ≤ n := by omega
  refine callsIn_of_wp Tryd.func95 rfl trivial ?_ rfl
  simp only [Tryd.ntmps95, List.size_toArray, List.length_cons, List.length_nil, Nat.reduceAdd, Nat.reduceSub, Array.replicate_succ, Array.replicate_zero, List.push_toArray, List.append_toArray, List.nil_append, List.cons_append]
  gi_wp2
  gi_loopw [5] (fun av wr => ∃ (p : Nat) (pre : List (Nat × Nat)), av = .int .i64 p ∧ p ≤ l.length ∧ Forms wr ∧ J pre wr ∧ Hid (pre ++ (Utf.scan (l.drop p) p).1 = Utf.all l)) (fun av _ => l.length - (intOf av).toNat)
  case atStart => exact ⟨0, [], rfl, by omega, hF, h0, rfl⟩
  case round =>
    obtain ⟨p, pre, rfl, hp, hFw, hJp, HP⟩ := hrel
    by_cases hlt : p < l.length
    · obtain ⟨c, m, hn⟩ : ∃ c m, Utf.next (l.drop p) = (c, m) := ⟨_, _, rfl⟩
      have hcon := next_any (l.drop p) wr hFw
      rw [hn] at hcon
      have HN := Lib.hid hn
      have hle := Utf.next_le (l := l.drop p)
      rw [hn, List.length_drop] at hle
      simp only at hle
      clear hn
      by_cases hz : m = 0
      · subst hz
        gi_wp2_with (refine ⟨trivial, ?_⟩; gi_at_call 108; refine (callsIn_wide.2 hcon).mono ?_; rintro e w3 ⟨rfl, hB3⟩)
        refine ⟨fun _ h => (by cases h), ?_⟩
        gi_wp2
        refine bodyPost_ret (results_tmp rfl _ _ _) rfl ?_
        have h1 := HP.out
        rw [Utf.scan_no (by rw [HN.out]), List.append_nil] at h1
        exact ⟨⟨_, rfl⟩, .inl ⟨_, h1, hJ _ _ _ hJp (.of_below hB3)⟩⟩
      · have hzb : ((m : Int) == 0) = false := by simp; omega
        have h1 := HP.out
        rw [Utf.scan_ok (by rw [HN.out]; exact hz), HN.out, List.drop_drop] at h1
        have HP2 := Lib.hid h1
        clear h1
        gi_wp2_with (refine ⟨trivial, ?_⟩; gi_at_call 108; refine (callsIn_wide.2 hcon).mono ?_; rintro e w3 ⟨rfl, hB3⟩)
        have hJ3 := hJ _ _ _ hJp (.of_below hB3 (T := T))
        obtain ⟨fn, tmps, assign, body, hy, hR⟩ := hY pre (p, c) w3 hJ3
        unfold encS at hy
        gi_wp2
        refine hR.mono ?_
        rintro e W4 (⟨rfl, hJ4, hk4⟩ | ⟨rfl, hJ4, hk4⟩)
        · have hF4 : Forms W4 := (hFw.below hB3).kept hk4.1 (hk4.2 _ (hK _ rfl))
          gi_wp2
          go_roundw
          case rel => exact ⟨p + m, pre ++ [(p, c)], by simp, by omega, hF4, hJ4, by have := HP2.out; unfold Hid; simpa using this⟩
          case measure => simp [intOf]; omega
        · gi_wp2
          refine bodyPost_ret (results_tmp rfl _ _ _) rfl ?_
          exact ⟨⟨_, rfl⟩, .inr ⟨pre ++ [(p, c)], ⟨_, by have := HP2.out; simpa using this⟩, hJ4⟩⟩
    · gi_wp2
      refine bodyPost_ret (results_tmp rfl _ _ _) rfl ?_
      have h1 := HP.out
      rw [List.drop_eq_nil_of_le (by omega), Utf.scan_nil, List.append_nil] at h1
      exact ⟨⟨_, rfl⟩, .inl ⟨_, h1, hJp⟩⟩
theorem yieldAt_wide {P : Program} {n m l : Nat} {args : Array Value} {W : World} {R : Ending → World → Prop} (h : YieldAt Fence.wide n P l args W R) : YieldAt Fence.wide m P l args W R := by
  obtain ⟨fn, tmps, assign, body, h1, h2, h3⟩ := h
  exact ⟨fn, tmps, assign, body, h1, h2, fun c cs _ => h3 c cs (room_wide _)⟩

set_option maxRecDepth 100000 in
set_option maxHeartbeats 1000000 in
theorem uall_seq (n Bx : Nat) (l : List UInt8) (T K : Nat → Prop) (w : World) (hn : 3 ≤ n) (hx : Boxed w Bx 9 (.string (str l))) (hF : Forms w) (hl : l.length ≤ 4611686018427387904) (hK : ∀ k, k = 3 → K k) :
    SeqT Fence.wide n Tryd.prog 97 #[.pointer (some ⟨Bx, 0, none⟩)] encS T K (fun xs => xs = Utf.all l) (fun pre => pre <+: Utf.all l) w := by
  intro lp J Jx W hbel hJ hJx hY h0
  have hn1 : 1 ≤ n := by omega
  have hx0 : Boxed W Bx 9 (.string (str l)) := (hbel.block Bx hx.lt).trans hx
  have hc := hx0.cell
  have hF0 := hF.below hbel
  have hw := walk_seq (n - 1) l T K W (by omega) hF0 hl lp J Jx hK hJ (fun pre x W1 h => yieldAt_wide (hY pre x W1 h)) h0
  refine callsIn_of_wp Tryd.func97 rfl trivial ?_ rfl
  simp only [Tryd.ntmps97, List.size_toArray, List.length_cons, List.length_nil, Nat.reduceAdd, Nat.reduceSub, Array.replicate_succ, Array.replicate_zero, List.push_toArray, List.append_toArray, List.nil_append, List.cons_append]
  gi_wp2_with (refine ⟨trivial, ?_⟩; gi_at_call 95; refine hw.mono ?_; rintro e w3 ⟨⟨v, rfl⟩, hw3⟩)
  go_end0
  exact ⟨⟨_, rfl⟩, hw3⟩

theorem uallfn_any (l : List UInt8) (w : World) : Calls Tryd.prog 75 #[.string (str l)] w fun e w' => e = .returned (.func (.func 97) #[] #[.pointer (some ⟨w.heap.size, 0, none⟩)]) ∧ w.alloc (.cells #[.string (str l)] 9) = w' := by
  go_enter Tryd.func75, Tryd.ntmps75
  go_wp2
  go_ret
  exact ⟨rfl, rfl⟩
end Go.Proofs.YthabfgpncebigaaDoor

/- Cells of pairs, worlds beside a range over a function: what tabulariumlaw02.told and others need. -/
namespace Go.Proofs.YthabfgpncebigaaDoor
open Go.RowKit

attribute [local go_sem] Oper.semAt_some

/-- Scalars and their places, as cells. -/
def sval (l : List (Nat × Nat)) : List Value := l.flatMap fun x => [.int .i64 x.1, .int .i64 x.2]
theorem sval_append (a b : List (Nat × Nat)) : sval (a ++ b) = sval a ++ sval b := by simp [sval]
theorem sval_snoc (l : List (Nat × Nat)) (x : Nat × Nat) : sval (l ++ [x]) = sval l ++ [.int .i64 x.1, .int .i64 x.2] := by simp [sval]
theorem sval_length (l : List (Nat × Nat)) : (sval l).length = l.length * 2 := by
  induction l with
  | nil => rfl
  | cons x l ih => simp only [sval, List.flatMap_cons, List.length_append, List.length_cons, List.length_nil] at ih ⊢; omega
theorem sval_get {l : List (Nat × Nat)} {k : Nat} (h : k < l.length) : (sval l)[k * 2]? = some (.int .i64 (l[k].1 : Int)) ∧ (sval l)[k * 2 + 1]? = some (.int .i64 (l[k].2 : Int)) := by
  induction l generalizing k with
  | nil => simp at h
  | cons x l ih =>
    cases k with
    | zero => exact ⟨rfl, rfl⟩
    | succ k =>
      have := ih (k := k) (by simpa using h)
      have e : sval (x :: l) = (.int .i64 x.1) :: (.int .i64 x.2) :: sval l := rfl
      rw [e, show (k + 1) * 2 = k * 2 + 1 + 1 by omega]
      simpa using this

/-- A call that makes a slice of its own, its elements of sz cells each. -/
def OwnedS (w : World) (t : TypeId) (sz : Nat) (xs : List Value) (e : Ending) (w' : World) : Prop :=
  ∃ A n c, e = .returned (.slice A n c) ∧ w'.ownsRow w.heap.size t sz (.slice A n c) n xs ∧ Below w.heap.size w w'

/-- A new block that holds one element. -/
theorem Rd.newE (w : World) (e : TypeId) (cs : List Value) (sz : Nat) (hl : cs.length = sz) : Rd (w.alloc (.cells cs.toArray e)) sz (some ⟨w.heap.size, 0, none⟩) 1 1 cs := by
  refine ⟨by omega, Nat.le_refl _, by simp [maxLen], fun _ => ⟨_, rfl, by simp, fun j u hu => ?_⟩⟩
  have hadd : (⟨w.heap.size, 0, none⟩ : Addr).add j = ⟨w.heap.size, j, none⟩ := by unfold Addr.add; split <;> simp_all
  rw [hadd, cell_of_row _ w.heap.size j cs.toArray e (0, 0) (heap_alloc_new w _)]
  simpa using hu

theorem run_equalIn_func_nil {P : Program} (w : World) (d : Nat) {t : TypeId} {ps rs : Array TypeId} {v : Bool} (ht : P.underlying t = some (.func ps rs v)) (f : Fn) (a c : Array Value) :
    (Op.equalIn (d + 1) t (.func f a c) .nilFunc).run P w = .ok false w := by
  simp [Op.equalIn, run_underlying ht]
theorem run_neq_func_nil {P : Program} (w : World) {t : TypeId} {ps rs : Array TypeId} {v : Bool} (ht : P.underlying t = some (.func ps rs v)) (f : Fn) (a c : Array Value) :
    (binOp .neq t (.func f a c) .nilFunc).run P w = .ok (.bool true) w := by
  simp only [binOp]
  simp [Op.equal, Op.maxDepth, run_equalIn_func_nil w 9999 ht f a c]

theorem boxed_ext {T : Nat → Prop} {A B : World} {b : Nat} {t : TypeId} {v : Value} (h : Boxed A b t v) (he : Ext T A B) (hT : ¬ T b) : Boxed B b t v := (he.block b h.lt hT).trans h
theorem boxed_putObj {A : World} {b l : Nat} {t : TypeId} {v : Value} {o o' : Obj} (h : Boxed A b t v) (hl : A.heap[l]? = some o) (ho : o.isCells = false) : Boxed (A.putObj l o') b t v := by
  have hne : b ≠ l := by
    rintro rfl
    rw [show A.heap[b]? = _ from h] at hl
    cases hl; cases ho
  exact (World.putObj_heap_other hne).trans h
theorem ownsRow_ext {T : Nat → Prop} {A B : World} {base : Nat} {e : TypeId} {sz : Nat} {v : Value} {k : Nat} {xs : List Value} (h : A.ownsRow base e sz v k xs) (he : Ext T A B) (hT : ∀ g, v.ownBlock = some g → ¬ T g) : B.ownsRow base e sz v k xs := by
  refine ⟨h.1, ?_⟩
  rcases h.2 with h0 | ⟨g, cap, cur, rfl, hb, hg, rest⟩
  · exact .inl h0
  · exact .inr ⟨g, cap, cur, rfl, hb, by rw [he.block g (Array.getElem?_eq_some_iff.1 hg).1 (hT g rfl)]; exact hg, rest⟩
theorem below_ext {T : Nat → Prop} {n₀ : Nat} {w A B : World} (h : Below n₀ w A) (he : Ext T A B) (hT : ∀ k, T k → n₀ ≤ k) (hn : n₀ ≤ w.heap.size) : Below n₀ w B :=
  h.trans ⟨he.os, he.tape, he.output, he.size, fun k hk => he.block k (by have := h.size; omega) (fun ht => by have := hT k ht; omega)⟩
theorem below_putObj {n₀ : Nat} {w A : World} {l : Nat} {o : Obj} (h : Below n₀ w A) (hl : n₀ ≤ l) : Below n₀ w (A.putObj l o) :=
  h.trans ⟨rfl, rfl, rfl, by simp, fun k hk => World.putObj_heap_other (by omega)⟩

/-- What the iterator wants kept: the table. -/
def UK (k : Nat) : Prop := k = 3
end Go.Proofs.YthabfgpncebigaaDoor

/- tabulariumlaw02.same; tabulariumref02.Put. -/
namespace Go.Proofs.YthabfgpncebigaaDoor
open Go.RowKit

/-- The string that a number is written as. -/
def encI (c : Int) : List UInt8 := if 0 ≤ c then Utf.enc c.toNat else []
theorem encI_nat (c : Nat) : encI (c : Int) = Utf.enc c := by unfold encI; rw [if_pos (by omega)]; rfl
theorem encI_none {c : Int} (h : scalarI c = false) : encI c = [] := by
  unfold encI
  split
  · rename_i h0
    rw [Utf.enc_nil]
    simp only [scalarI, Bool.and_eq_false_iff, decide_eq_false_iff_not] at h
    rcases h with h | h
    · exact absurd h0 h
    · exact h
  · rfl
theorem bs_new (w : World) (e : TypeId) (cs : List Value) (l : List UInt8) (h : cs = bval l) (hm : l.length ≤ maxLen) (g n c : Nat) (hg : g = w.heap.size) (hn : n = l.length) (hc : c = l.length) : Bs (w.alloc (.cells cs.toArray e)) (some ⟨g, 0, none⟩) n c l := by
  subst h hg hn hc
  have := Rd.new w e (bval l) (by rw [bval_length]; exact hm)
  rw [bval_length] at this
  exact this
theorem enc_1 {n : Nat} (hs : Utf.scalar n = true) (h : n < 128) : Utf.enc n = [UInt8.ofNat n] := by
  unfold Utf.enc; rw [if_neg (by simp [hs]), if_pos h]
theorem enc_2 {n : Nat} (hs : Utf.scalar n = true) (h1 : ¬ n < 128) (h : n < 2048) : Utf.enc n = [UInt8.ofNat (192 + n / 64), UInt8.ofNat (128 + n % 64)] := by
  unfold Utf.enc; rw [if_neg (by simp [hs]), if_neg h1, if_pos h]
theorem enc_3 {n : Nat} (hs : Utf.scalar n = true) (h1 : ¬ n < 128) (h2 : ¬ n < 2048) (h : n < 65536) : Utf.enc n = [UInt8.ofNat (224 + n / 4096), UInt8.ofNat (128 + n / 64 % 64), UInt8.ofNat (128 + n % 64)] := by
  unfold Utf.enc; rw [if_neg (by simp [hs]), if_neg h1, if_neg h2, if_pos h]
theorem enc_4 {n : Nat} (hs : Utf.scalar n = true) (h1 : ¬ n < 128) (h2 : ¬ n < 2048) (h3 : ¬ n < 65536) : Utf.enc n = [UInt8.ofNat (240 + n / 262144), UInt8.ofNat (128 + n / 4096 % 64), UInt8.ofNat (128 + n / 64 % 64), UInt8.ofNat (128 + n % 64)] := by
  unfold Utf.enc; rw [if_neg (by simp [hs]), if_neg h1, if_neg h2, if_neg h3]

set_option maxHeartbeats 1000000 in
set_option maxRecDepth 1000000 in
theorem refput_1 (n : Nat) (w : World) (hs : Utf.scalar n = true) (c1 : n < 128)  :
    Calls Tryd.prog 83 #[.int .i64 n] w fun e w' => e = .returned (.string (str (Utf.enc n))) ∧ Below w.heap.size w w' := by
  have hen := enc_1 hs c1
  generalize Utf.enc n = en at *
  have hb := bs_new w 5 [.int .u8 (n : Int)] en (by rw [hen]; simp [bval]; omega) (by rw [hen]; simp [maxLen]) _ 1 1 rfl (by rw [hen]; rfl) (by rw [hen]; rfl)
  have HV := Lib.hid (run_convert_bs (P := Tryd.prog) _ 93 9 5 Tryd.underlying93 Tryd.underlying5 Tryd.underlying9 hb)
  clear hb hen hs
  go_enter Tryd.func83, Tryd.ntmps83
  go_wp2
  rw [HV.out]
  go_wp2
  go_returns
  exact ⟨rfl, by go_grown⟩
set_option maxHeartbeats 1000000 in
set_option maxRecDepth 1000000 in
theorem refput_2 (n : Nat) (w : World) (hs : Utf.scalar n = true) (c1 : ¬ n < 128) (c2 : n < 2048)  :
    Calls Tryd.prog 83 #[.int .i64 n] w fun e w' => e = .returned (.string (str (Utf.enc n))) ∧ Below w.heap.size w w' := by
  have hen := enc_2 hs c1 c2
  generalize Utf.enc n = en at *
  have hb := bs_new w 5 [.int .u8 (192 + (n : Int) / 64), .int .u8 (128 + (n : Int) % 64)] en (by rw [hen]; simp [bval]; refine ⟨?_, ?_⟩ <;> omega) (by rw [hen]; simp [maxLen]) _ 2 2 rfl (by rw [hen]; rfl) (by rw [hen]; rfl)
  have HV := Lib.hid (run_convert_bs (P := Tryd.prog) _ 93 9 5 Tryd.underlying93 Tryd.underlying5 Tryd.underlying9 hb)
  clear hb hen hs
  go_enter Tryd.func83, Tryd.ntmps83
  go_wp2
  rw [HV.out]
  go_wp2
  go_returns
  exact ⟨rfl, by go_grown⟩
set_option maxHeartbeats 1000000 in
set_option maxRecDepth 1000000 in
theorem refput_3 (n : Nat) (w : World) (hs : Utf.scalar n = true) (c1 : ¬ n < 128) (c2 : ¬ n < 2048) (c3 : n < 65536) (h5 : n < 55296) :
    Calls Tryd.prog 83 #[.int .i64 n] w fun e w' => e = .returned (.string (str (Utf.enc n))) ∧ Below w.heap.size w w' := by
  have hen := enc_3 hs c1 c2 c3
  generalize Utf.enc n = en at *
  have hb := bs_new w 5 [.int .u8 (224 + (n : Int) / 4096), .int .u8 (128 + (n : Int) / 64 % 64), .int .u8 (128 + (n : Int) % 64)] en (by rw [hen]; simp [bval]; refine ⟨?_, ?_, ?_⟩ <;> omega) (by rw [hen]; simp [maxLen]) _ 3 3 rfl (by rw [hen]; rfl) (by rw [hen]; rfl)
  have HV := Lib.hid (run_convert_bs (P := Tryd.prog) _ 93 9 5 Tryd.underlying93 Tryd.underlying5 Tryd.underlying9 hb)
  clear hb hen hs
  go_enter Tryd.func83, Tryd.ntmps83
  go_wp2
  rw [HV.out]
  go_wp2
  go_returns
  exact ⟨rfl, by go_grown⟩
set_option maxHeartbeats 1000000 in
set_option maxRecDepth 1000000 in
theorem refput_3b (n : Nat) (w : World) (hs : Utf.scalar n = true) (c1 : ¬ n < 128) (c2 : ¬ n < 2048) (c3 : n < 65536) (h5 : 57343 < n) :
    Calls Tryd.prog 83 #[.int .i64 n] w fun e w' => e = .returned (.string (str (Utf.enc n))) ∧ Below w.heap.size w w' := by
  have hen := enc_3 hs c1 c2 c3
  generalize Utf.enc n = en at *
  have hb := bs_new w 5 [.int .u8 (224 + (n : Int) / 4096), .int .u8 (128 + (n : Int) / 64 % 64), .int .u8 (128 + (n : Int) % 64)] en (by rw [hen]; simp [bval]; refine ⟨?_, ?_, ?_⟩ <;> omega) (by rw [hen]; simp [maxLen]) _ 3 3 rfl (by rw [hen]; rfl) (by rw [hen]; rfl)
  have HV := Lib.hid (run_convert_bs (P := Tryd.prog) _ 93 9 5 Tryd.underlying93 Tryd.underlying5 Tryd.underlying9 hb)
  clear hb hen hs
  go_enter Tryd.func83, Tryd.ntmps83
  go_wp2
  rw [HV.out]
  go_wp2
  go_returns
  exact ⟨rfl, by go_grown⟩
set_option maxHeartbeats 1000000 in
set_option maxRecDepth 1000000 in
theorem refput_4 (n : Nat) (w : World) (hs : Utf.scalar n = true) (c1 : ¬ n < 128) (c2 : ¬ n < 2048) (c3 : ¬ n < 65536) (c4 : n < 1114112)  :
    Calls Tryd.prog 83 #[.int .i64 n] w fun e w' => e = .returned (.string (str (Utf.enc n))) ∧ Below w.heap.size w w' := by
  have hen := enc_4 hs c1 c2 c3
  generalize Utf.enc n = en at *
  have hb := bs_new w 5 [.int .u8 (240 + (n : Int) / 262144), .int .u8 (128 + (n : Int) / 4096 % 64), .int .u8 (128 + (n : Int) / 64 % 64), .int .u8 (128 + (n : Int) % 64)] en (by rw [hen]; simp [bval]; refine ⟨?_, ?_, ?_, ?_⟩ <;> omega) (by rw [hen]; simp [maxLen]) _ 4 4 rfl (by rw [hen]; rfl) (by rw [hen]; rfl)
  have HV := Lib.hid (run_convert_bs (P := Tryd.prog) _ 93 9 5 Tryd.underlying93 Tryd.underlying5 Tryd.underlying9 hb)
  clear hb hen hs
  go_enter Tryd.func83, Tryd.ntmps83
  go_wp2
  rw [HV.out]
  go_wp2
  go_returns
  exact ⟨rfl, by go_grown⟩
set_option maxHeartbeats 1000000 in
set_option maxRecDepth 1000000 in
theorem refput_any (c : Int) (w : World) : Calls Tryd.prog 83 #[.int .i64 c] w fun e w' => e = .returned (.string (str (encI c))) ∧ Below w.heap.size w w' := by
  by_cases hs : scalarI c = true
  · have hs2 := hs
    rw [scalarI_eq, decide_eq_true_eq] at hs
    obtain ⟨n, rfl⟩ : ∃ n : Nat, c = n := ⟨c.toNat, by omega⟩
    rw [encI_nat]
    rw [scalarI_nat] at hs2
    by_cases c1 : n < 128
    · exact refput_1 n w hs2 c1
    · by_cases c2 : n < 2048
      · exact refput_2 n w hs2 c1 c2
      · by_cases c3 : n < 65536
        · by_cases h5 : n < 55296
          · exact refput_3 n w hs2 c1 c2 c3 h5
          · exact refput_3b n w hs2 c1 c2 c3 (by omega)
        · exact refput_4 n w hs2 c1 c2 c3 (by omega)
  · rw [Bool.not_eq_true] at hs
    rw [encI_none hs]
    rw [scalarI_eq, decide_eq_false_iff_not] at hs
    go_enter Tryd.func83, Tryd.ntmps83
    obtain h | h | h : c < 0 ∨ 1114112 ≤ c ∨ (55296 ≤ c ∧ c ≤ 57343) := by omega
    · go_wp2
      go_returns
      exact ⟨rfl, Below.refl _ _⟩
    · go_wp2
      go_returns
      exact ⟨rfl, Below.refl _ _⟩
    · go_wp2
      go_returns
      exact ⟨rfl, Below.refl _ _⟩
end Go.Proofs.YthabfgpncebigaaDoor

/- UTF-8 in plain Lean: a scalar found by trying. -/
namespace Go.Proofs.YthabfgpncebigaaDoor
open Go.RowKit

/-- What so many bytes would be as a scalar. -/
def guessF : Int → List UInt8 → Int
  | c, [] => c
  | c, x :: r => guessF (c * 64 + (x.toNat : Int) - 128) r
def leadI (n : Nat) : Int := if n = 1 then 0 else if n = 2 then 192 else if n = 3 then 224 else 240
def guess : List UInt8 → Int
  | [] => 0
  | b :: r => guessF ((b.toNat : Int) - leadI (r.length + 1)) r

theorem guess_enc {c : Nat} (hs : Utf.scalar c = true) : guess (Utf.enc c) = c := by
  have e : ∀ n : Nat, n < 256 → ((UInt8.ofNat n).toNat : Int) = (n : Int) := fun n hn => by rw [Utf.toNat_ofNat hn]
  have hc := Utf.scalar_iff.1 hs
  by_cases c1 : c < 128
  · rw [enc_1 hs c1]
    simp only [guess, guessF, leadI, List.length_nil]
    rw [e _ (by omega)]; simp
  · by_cases c2 : c < 2048
    · rw [enc_2 hs c1 c2]
      simp only [guess, guessF, leadI, List.length_nil, List.length_cons]
      rw [e _ (by omega), e _ (by omega)]; simp; omega
    · by_cases c3 : c < 65536
      · rw [enc_3 hs c1 c2 c3]
        simp only [guess, guessF, leadI, List.length_nil, List.length_cons]
        rw [e _ (by omega), e _ (by omega), e _ (by omega)]; simp; omega
      · rw [enc_4 hs c1 c2 c3]
        simp only [guess, guessF, leadI, List.length_nil, List.length_cons]
        rw [e _ (by omega), e _ (by omega), e _ (by omega), e _ (by omega)]; simp; omega
theorem one_hit {l : List UInt8} {n : Nat} (h1 : 1 ≤ n) (hn : n ≤ l.length) (h : encI (guess (l.take n)) = l.take n) : ∃ c : Nat, guess (l.take n) = c ∧ Utf.next l = (c, n) := by
  have hne : l.take n ≠ [] := by intro e; have := congrArg List.length e; rw [List.length_take, Nat.min_eq_left hn, List.length_nil] at this; omega
  obtain ⟨g, hg⟩ : ∃ g, g = guess (l.take n) := ⟨_, rfl⟩
  rw [← hg] at h
  have h0 : 0 ≤ g := by
    unfold encI at h
    split at h
    · assumption
    · exact absurd h.symm hne
  obtain ⟨c, rfl⟩ : ∃ c : Nat, g = c := ⟨g.toNat, by omega⟩
  rw [encI_nat] at h
  have hs : Utf.scalar c = true := by
    cases hs : Utf.scalar c with
    | true => rfl
    | false => rw [Utf.enc_nil.2 hs] at h; exact absurd h.symm hne
  refine ⟨c, hg.symm, ?_⟩
  have hx := Utf.next_enc hs (l.drop n)
  rw [h, List.take_append_drop, List.length_take, Nat.min_eq_left hn] at hx
  exact hx
theorem one_miss {l : List UInt8} (h : ∀ n, 1 ≤ n → n ≤ 4 → n ≤ l.length → encI (guess (l.take n)) ≠ l.take n) : Utf.next l = (0, 0) := by
  refine (Utf.next_or l).resolve_right fun hz => ?_
  obtain ⟨h1, h2, h3, h4⟩ := Utf.next_some (l := l) (c := (Utf.next l).1) (n := (Utf.next l).2) rfl hz
  have h5 := Utf.enc_length_le (Utf.next l).1
  exact h (Utf.next l).2 (by omega) (by omega) h4 (by rw [h2, guess_enc h1, encI_nat])
end Go.Proofs.YthabfgpncebigaaDoor

/- utf.Put: how a scalar is written. (Printed by gen_utfput.py.) -/
namespace Go.Proofs.YthabfgpncebigaaDoor
open Go.RowKit

theorem infoB : (Tryd.prog.info? 5).map (fun i => (i.zero, i.size, i.bytes)) = some (some (.int .u8 0), 1, 1) := by kernel_rfl
theorem i64_and_nat (a b : Nat) (ha : a < 9223372036854775808) (hb : b < 9223372036854775808) : bits .and .i64 (a : Int) (b : Int) = ((a &&& b : Nat) : Int) := by
  have hx : a &&& b < 2 ^ 63 := Nat.and_lt_two_pow _ (by omega)
  show IntKind.i64.wrap ((BitVec.ofInt 64 (a : Int) &&& BitVec.ofInt 64 (b : Int)).toNat : Int) = _
  rw [BitVec.toNat_and, ofInt_u64 a (by omega), ofInt_u64 b (by omega), IntWalk.i64_in _ (by omega)]
theorem and_63a (q : Nat) (h : q < 9223372036854775808) : bits .and .i64 (q : Int) 63 = ((q % 64 : Nat) : Int) := by
  have := i64_and_nat q 63 h (by omega)
  rw [show ((63 : Nat) : Int) = 63 from rfl] at this
  rw [this, show (63 : Nat) = 2 ^ 6 - 1 from rfl, Nat.and_two_pow_sub_one_eq_mod]
theorem and_63 (n : Nat) (h : n < 1114112) : bits .and .i64 (n : Int) 63 = ((n % 64 : Nat) : Int) := and_63a n (by omega)
theorem and_63_1 (n : Nat) (h : n < 1114112) : bits .and .i64 ((n : Int) / 64) 63 = ((n / 64 % 64 : Nat) : Int) := by
  have := and_63a (n / 64) (by omega)
  rwa [show ((n / 64 : Nat) : Int) = (n : Int) / 64 by omega] at this
theorem and_63_2 (n : Nat) (h : n < 1114112) : bits .and .i64 ((n : Int) / 4096) 63 = ((n / 4096 % 64 : Nat) : Int) := by
  have := and_63a (n / 4096) (by omega)
  rwa [show ((n / 4096 : Nat) : Int) = (n : Int) / 4096 by omega] at this
theorem or_128 : ∀ (q : Nat), q < 64 → bits .or .i64 128 (q : Int) = ((128 + q : Nat) : Int) := by
  intro q hq
  have := (show ∀ q : Fin 64, bits .or .i64 128 (q.val : Int) = ((128 + q.val : Nat) : Int) by decide +kernel) ⟨q, hq⟩
  exact this
theorem or_lead0 (n : Nat) (h : n < 128) : bits .or .i64 0 (n : Int) = ((n : Nat) : Int) :=
  (show ∀ q : Fin 128, bits .or .i64 0 (q.val : Int) = ((q.val : Nat) : Int) by decide +kernel) ⟨n, h⟩
theorem or_lead1 (n : Nat) (h : n < 2048) : bits .or .i64 192 ((n : Int) / 64) = ((192 + n / 64 : Nat) : Int) := by
  have := (show ∀ q : Fin 32, bits .or .i64 192 (q.val : Int) = ((192 + q.val : Nat) : Int) by decide +kernel) ⟨n / 64, by omega⟩
  simp only at this
  rwa [show ((n / 64 : Nat) : Int) = (n : Int) / 64 by omega] at this
theorem or_lead2 (n : Nat) (h : n < 65536) : bits .or .i64 224 ((n : Int) / 4096) = ((224 + n / 4096 : Nat) : Int) := by
  have := (show ∀ q : Fin 16, bits .or .i64 224 (q.val : Int) = ((224 + q.val : Nat) : Int) by decide +kernel) ⟨n / 4096, by omega⟩
  simp only at this
  rwa [show ((n / 4096 : Nat) : Int) = (n : Int) / 4096 by omega] at this
theorem or_lead3 (n : Nat) (h : n < 1114112) : bits .or .i64 240 ((n : Int) / 262144) = ((240 + n / 262144 : Nat) : Int) := by
  have := (show ∀ q : Fin 8, bits .or .i64 240 (q.val : Int) = ((240 + q.val : Nat) : Int) by decide +kernel) ⟨n / 262144, by omega⟩
  simp only at this
  rwa [show ((n / 262144 : Nat) : Int) = (n : Int) / 262144 by omega] at this

set_option maxHeartbeats 1000000 in
set_option maxRecDepth 1000000 in
theorem utfput_1 (n : Nat) (w : World) (hF : Forms w) (hs : Utf.scalar n = true) (c1 : n < 128) :
    Calls Tryd.prog 94 #[.int .i64 n] w fun e w' => e = .returned (.tuple #[.string (str (Utf.enc n)), .bool true]) ∧ Below w.heap.size w w' := by
  obtain ⟨i0, hi, hz0, hz1, hz2⟩ := info_parts infoB
  have hen := enc_1 hs c1
  have hS := scalarI_nat n
  rw [hs] at hS
  generalize Utf.enc n = en at *
  have HE := Lib.hid hen
  clear hen hs
  have hG := hF.1
  (obtain ⟨hGa, hGb, hGc, hGd, hGe, hGf⟩ := glob_facts hG; simp only [Nat.reduceSub] at hGb hGc)
  have f0 := hF.2 0 (by omega)
  have f1 := hF.2 1 (by omega)
  have f2 := hF.2 2 (by omega)
  simp only [formsL, List.getD_cons_zero, List.getD_cons_succ] at f0 f1 f2
  have hv0 : n < 256 := by omega
  have ho0 : bits .or .i64 0 (n : Int) = ((n : Nat) : Int) := or_lead0 n (by omega)
  have hvals : ([.int .u8 (n : Int)] : List Value) = bval en := by rw [HE.out]; simp [bval]; omega
  have HV := Lib.hid hvals
  clear hvals 
  have hlen : en.length = 1 := by rw [HE.out]; rfl
  have HL := Lib.hid hlen
  clear hlen
  go_enter Tryd.func94, Tryd.ntmps94
  go_wp2_with fail
  refine (scalar_any _ _).mono ?_
  rintro e w' ⟨rfl, rfl⟩
  rw [hS]
  go_wp2
  refine wp_loop_rounds 2 ?_
  rw [rounds_succ]
  go_wp2
  go_region
  go_wp2
  have hB0 : Below w.heap.size w (((w.alloc (.cells #[.int .i64 128, .int .i64 0, .int .i64 0] 131)).alloc (.cells #[.int .u8 (n : Int)] 5)).drew) := (((Below.refl _ w).alloc (Nat.le_refl _) _).alloc (by simp) _).drew
  have hown0 := (World.ownsRow_lit (base := w.heap.size) (e := 5) (size := 1) (w.alloc (.cells #[.int .i64 128, .int .i64 0, .int .i64 0] 131)) #[.int .u8 (n : Int)] 1 (by simp) (by simp [maxLen]) rfl).drew
  rw [World.size_alloc] at hown0
  generalize ((w.alloc (.cells #[.int .i64 128, .int .i64 0, .int .i64 0] 131)).alloc (.cells #[.int .u8 (n : Int)] 5)).drew = W0 at hB0 hown0 ⊢
  refine wp_loop_rounds 2 ?_
  rw [rounds_succ]
  go_wp2
  have hrd := Rd.of_own hown0
  skip
  rw [show (_ : List Value) = bval en from HV.out] at hrd
  rw [run_convert_bs (P := Tryd.prog) _ 93 9 5 Tryd.underlying93 Tryd.underlying5 Tryd.underlying9 hrd]
  go_wp2
  go_returns
  exact ⟨rfl, hB0⟩
set_option maxHeartbeats 1000000 in
set_option maxRecDepth 1000000 in
theorem utfput_2 (n : Nat) (w : World) (hF : Forms w) (hs : Utf.scalar n = true) (c1 : ¬ n < 128) (c2 : n < 2048) :
    Calls Tryd.prog 94 #[.int .i64 n] w fun e w' => e = .returned (.tuple #[.string (str (Utf.enc n)), .bool true]) ∧ Below w.heap.size w w' := by
  obtain ⟨i0, hi, hz0, hz1, hz2⟩ := info_parts infoB
  have hen := enc_2 hs c1 c2
  have hS := scalarI_nat n
  rw [hs] at hS
  generalize Utf.enc n = en at *
  have HE := Lib.hid hen
  clear hen hs
  have hG := hF.1
  (obtain ⟨hGa, hGb, hGc, hGd, hGe, hGf⟩ := glob_facts hG; simp only [Nat.reduceSub] at hGb hGc)
  have f0 := hF.2 0 (by omega)
  have f1 := hF.2 1 (by omega)
  have f2 := hF.2 2 (by omega)
  have f3 := hF.2 3 (by omega)
  have f4 := hF.2 4 (by omega)
  have f5 := hF.2 5 (by omega)
  simp only [formsL, List.getD_cons_zero, List.getD_cons_succ] at f0 f1 f2 f3 f4 f5
  have hv0 : 192 + n / 64 < 256 := by omega
  have ho0 : bits .or .i64 192 ((n : Int) / 64) = ((192 + n / 64 : Nat) : Int) := or_lead1 n (by omega)
  have ha0 : bits .and .i64 ((n : Int)) 63 = ((n % 64 : Nat) : Int) := and_63 n (by omega)
  have hb0 : bits .or .i64 128 (((n % 64 : Nat) : Int)) = ((128 + n % 64 : Nat) : Int) := or_128 (n % 64) (by omega)
  have hw0 : 128 + n % 64 < 256 := by omega
  obtain ⟨v, Hv⟩ : ∃ v, v = 192 + n / 64 := ⟨_, rfl⟩
  rw [← Hv] at hv0 ho0
  obtain ⟨u0, Hu0⟩ : ∃ u0, u0 = n % 64 := ⟨_, rfl⟩
  rw [← Hu0] at ha0 hb0 hw0
  obtain ⟨x0, Hx0⟩ : ∃ x0, x0 = 128 + u0 := ⟨_, rfl⟩
  rw [← Hx0] at hb0 hw0
  have hvals : ([.int .u8 (v : Int), .int .u8 (x0 : Int)] : List Value) = bval en := by rw [HE.out, Hv, Hx0, Hu0]; simp [bval]; refine ⟨?_, ?_⟩ <;> omega
  have HV := Lib.hid hvals
  clear hvals Hv Hx0 Hu0
  have hlen : en.length = 2 := by rw [HE.out]; rfl
  have HL := Lib.hid hlen
  clear hlen
  go_enter Tryd.func94, Tryd.ntmps94
  go_wp2_with fail
  refine (scalar_any _ _).mono ?_
  rintro e w' ⟨rfl, rfl⟩
  rw [hS]
  go_wp2
  refine wp_loop_rounds 3 ?_
  rw [rounds_succ]
  go_wp2
  rw [rounds_succ]
  go_wp2
  go_region
  go_wp2
  have hB0 : Below w.heap.size w (((w.alloc (.cells #[.int .i64 2048, .int .i64 192, .int .i64 1] 131)).alloc (.cells #[.int .u8 (v : Int)] 5)).drew) := (((Below.refl _ w).alloc (Nat.le_refl _) _).alloc (by simp) _).drew
  have hown0 := (World.ownsRow_lit (base := w.heap.size) (e := 5) (size := 1) (w.alloc (.cells #[.int .i64 2048, .int .i64 192, .int .i64 1] 131)) #[.int .u8 (v : Int)] 1 (by simp) (by simp [maxLen]) rfl).drew
  rw [World.size_alloc] at hown0
  generalize ((w.alloc (.cells #[.int .i64 2048, .int .i64 192, .int .i64 1] 131)).alloc (.cells #[.int .u8 (v : Int)] 5)).drew = W0 at hB0 hown0 ⊢
  refine wp_loop_rounds 3 ?_
  rw [rounds_succ]
  go_wp2_with (first
    | (at_builtin
       refine wpList_append_rd _ rfl _ _ _ rfl w.heap.size 5 i0 _ 1 1 Tryd.underlying93 hi hz0 hz1 hz2 rfl (by omega) _ _ _ (hown0.alloc _) rfl _ 1 1 _ (Rd.new1 _ _ _) rfl (by simp [Value.oneCell']) (by unfold maxLen; omega) (by omega) (hB0.alloc hB0.size _).size 2 rfl _ rfl ?_
       intro A1 c1' w1 hown1 hg1 _
       have hB1 := below_append (hB0.alloc hB0.size _) (hown0.alloc _) hg1 (Nat.le_refl _) (hB0.alloc hB0.size _).size))
  rw [rounds_succ]
  go_wp2
  have hrd := Rd.of_own hown1
  simp only [List.cons_append, List.nil_append] at hrd
  rw [show (_ : List Value) = bval en from HV.out] at hrd
  rw [run_convert_bs (P := Tryd.prog) _ 93 9 5 Tryd.underlying93 Tryd.underlying5 Tryd.underlying9 hrd]
  go_wp2
  go_returns
  exact ⟨rfl, hB1⟩
set_option maxHeartbeats 1000000 in
set_option maxRecDepth 1000000 in
theorem utfput_3 (n : Nat) (w : World) (hF : Forms w) (hs : Utf.scalar n = true) (c1 : ¬ n < 128) (c2 : ¬ n < 2048) (c3 : n < 65536) :
    Calls Tryd.prog 94 #[.int .i64 n] w fun e w' => e = .returned (.tuple #[.string (str (Utf.enc n)), .bool true]) ∧ Below w.heap.size w w' := by
  obtain ⟨i0, hi, hz0, hz1, hz2⟩ := info_parts infoB
  have hen := enc_3 hs c1 c2 c3
  have hS := scalarI_nat n
  rw [hs] at hS
  generalize Utf.enc n = en at *
  have HE := Lib.hid hen
  clear hen hs
  have hG := hF.1
  (obtain ⟨hGa, hGb, hGc, hGd, hGe, hGf⟩ := glob_facts hG; simp only [Nat.reduceSub] at hGb hGc)
  have f0 := hF.2 0 (by omega)
  have f1 := hF.2 1 (by omega)
  have f2 := hF.2 2 (by omega)
  have f3 := hF.2 3 (by omega)
  have f4 := hF.2 4 (by omega)
  have f5 := hF.2 5 (by omega)
  have f6 := hF.2 6 (by omega)
  have f7 := hF.2 7 (by omega)
  have f8 := hF.2 8 (by omega)
  simp only [formsL, List.getD_cons_zero, List.getD_cons_succ] at f0 f1 f2 f3 f4 f5 f6 f7 f8
  have hv0 : 224 + n / 4096 < 256 := by omega
  have ho0 : bits .or .i64 224 ((n : Int) / 4096) = ((224 + n / 4096 : Nat) : Int) := or_lead2 n (by omega)
  have ha1 : bits .and .i64 ((n : Int) / 64) 63 = ((n / 64 % 64 : Nat) : Int) := and_63_1 n (by omega)
  have hb1 : bits .or .i64 128 (((n / 64 % 64 : Nat) : Int)) = ((128 + n / 64 % 64 : Nat) : Int) := or_128 (n / 64 % 64) (by omega)
  have hw1 : 128 + n / 64 % 64 < 256 := by omega
  have ha0 : bits .and .i64 ((n : Int)) 63 = ((n % 64 : Nat) : Int) := and_63 n (by omega)
  have hb0 : bits .or .i64 128 (((n % 64 : Nat) : Int)) = ((128 + n % 64 : Nat) : Int) := or_128 (n % 64) (by omega)
  have hw0 : 128 + n % 64 < 256 := by omega
  obtain ⟨v, Hv⟩ : ∃ v, v = 224 + n / 4096 := ⟨_, rfl⟩
  rw [← Hv] at hv0 ho0
  obtain ⟨u1, Hu1⟩ : ∃ u1, u1 = n / 64 % 64 := ⟨_, rfl⟩
  rw [← Hu1] at ha1 hb1 hw1
  obtain ⟨x1, Hx1⟩ : ∃ x1, x1 = 128 + u1 := ⟨_, rfl⟩
  rw [← Hx1] at hb1 hw1
  obtain ⟨u0, Hu0⟩ : ∃ u0, u0 = n % 64 := ⟨_, rfl⟩
  rw [← Hu0] at ha0 hb0 hw0
  obtain ⟨x0, Hx0⟩ : ∃ x0, x0 = 128 + u0 := ⟨_, rfl⟩
  rw [← Hx0] at hb0 hw0
  have hvals : ([.int .u8 (v : Int), .int .u8 (x1 : Int), .int .u8 (x0 : Int)] : List Value) = bval en := by rw [HE.out, Hv, Hx1, Hx0, Hu1, Hu0]; simp [bval]; refine ⟨?_, ?_, ?_⟩ <;> omega
  have HV := Lib.hid hvals
  clear hvals Hv Hx1 Hx0 Hu1 Hu0
  have hlen : en.length = 3 := by rw [HE.out]; rfl
  have HL := Lib.hid hlen
  clear hlen
  go_enter Tryd.func94, Tryd.ntmps94
  go_wp2_with fail
  refine (scalar_any _ _).mono ?_
  rintro e w' ⟨rfl, rfl⟩
  rw [hS]
  go_wp2
  refine wp_loop_rounds 4 ?_
  rw [rounds_succ]
  go_wp2
  rw [rounds_succ]
  go_wp2
  rw [rounds_succ]
  go_wp2
  go_region
  go_wp2
  have hB0 : Below w.heap.size w (((w.alloc (.cells #[.int .i64 65536, .int .i64 224, .int .i64 2] 131)).alloc (.cells #[.int .u8 (v : Int)] 5)).drew) := (((Below.refl _ w).alloc (Nat.le_refl _) _).alloc (by simp) _).drew
  have hown0 := (World.ownsRow_lit (base := w.heap.size) (e := 5) (size := 1) (w.alloc (.cells #[.int .i64 65536, .int .i64 224, .int .i64 2] 131)) #[.int .u8 (v : Int)] 1 (by simp) (by simp [maxLen]) rfl).drew
  rw [World.size_alloc] at hown0
  generalize ((w.alloc (.cells #[.int .i64 65536, .int .i64 224, .int .i64 2] 131)).alloc (.cells #[.int .u8 (v : Int)] 5)).drew = W0 at hB0 hown0 ⊢
  refine wp_loop_rounds 4 ?_
  rw [rounds_succ]
  go_wp2_with (first
    | (at_builtin
       refine wpList_append_rd _ rfl _ _ _ rfl w.heap.size 5 i0 _ 1 1 Tryd.underlying93 hi hz0 hz1 hz2 rfl (by omega) _ _ _ (hown0.alloc _) rfl _ 1 1 _ (Rd.new1 _ _ _) rfl (by simp [Value.oneCell']) (by unfold maxLen; omega) (by omega) (hB0.alloc hB0.size _).size 2 rfl _ rfl ?_
       intro A1 c1' w1 hown1 hg1 _
       have hB1 := below_append (hB0.alloc hB0.size _) (hown0.alloc _) hg1 (Nat.le_refl _) (hB0.alloc hB0.size _).size))
  rw [rounds_succ]
  go_wp2_with (first
    | (at_builtin
       refine wpList_append_rd _ rfl _ _ _ rfl w.heap.size 5 i0 _ 1 1 Tryd.underlying93 hi hz0 hz1 hz2 rfl (by omega) _ _ _ (hown1.alloc _) rfl _ 1 1 _ (Rd.new1 _ _ _) rfl (by simp [Value.oneCell']) (by unfold maxLen; omega) (by omega) (hB1.alloc hB1.size _).size 3 rfl _ rfl ?_
       intro A2 c2' w2 hown2 hg2 _
       have hB2 := below_append (hB1.alloc hB1.size _) (hown1.alloc _) hg2 (Nat.le_refl _) (hB1.alloc hB1.size _).size))
  rw [rounds_succ]
  go_wp2
  have hrd := Rd.of_own hown2
  simp only [List.cons_append, List.nil_append] at hrd
  rw [show (_ : List Value) = bval en from HV.out] at hrd
  rw [run_convert_bs (P := Tryd.prog) _ 93 9 5 Tryd.underlying93 Tryd.underlying5 Tryd.underlying9 hrd]
  go_wp2
  go_returns
  exact ⟨rfl, hB2⟩
set_option maxHeartbeats 1000000 in
set_option maxRecDepth 1000000 in
theorem utfput_4 (n : Nat) (w : World) (hF : Forms w) (hs : Utf.scalar n = true) (c1 : ¬ n < 128) (c2 : ¬ n < 2048) (c3 : ¬ n < 65536) (c4 : n < 1114112) :
    Calls Tryd.prog 94 #[.int .i64 n] w fun e w' => e = .returned (.tuple #[.string (str (Utf.enc n)), .bool true]) ∧ Below w.heap.size w w' := by
  obtain ⟨i0, hi, hz0, hz1, hz2⟩ := info_parts infoB
  have hen := enc_4 hs c1 c2 c3
  have hS := scalarI_nat n
  rw [hs] at hS
  generalize Utf.enc n = en at *
  have HE := Lib.hid hen
  clear hen hs
  have hG := hF.1
  (obtain ⟨hGa, hGb, hGc, hGd, hGe, hGf⟩ := glob_facts hG; simp only [Nat.reduceSub] at hGb hGc)
  have f0 := hF.2 0 (by omega)
  have f1 := hF.2 1 (by omega)
  have f2 := hF.2 2 (by omega)
  have f3 := hF.2 3 (by omega)
  have f4 := hF.2 4 (by omega)
  have f5 := hF.2 5 (by omega)
  have f6 := hF.2 6 (by omega)
  have f7 := hF.2 7 (by omega)
  have f8 := hF.2 8 (by omega)
  have f9 := hF.2 9 (by omega)
  have f10 := hF.2 10 (by omega)
  have f11 := hF.2 11 (by omega)
  simp only [formsL, List.getD_cons_zero, List.getD_cons_succ] at f0 f1 f2 f3 f4 f5 f6 f7 f8 f9 f10 f11
  have hv0 : 240 + n / 262144 < 256 := by omega
  have ho0 : bits .or .i64 240 ((n : Int) / 262144) = ((240 + n / 262144 : Nat) : Int) := or_lead3 n (by omega)
  have ha2 : bits .and .i64 ((n : Int) / 4096) 63 = ((n / 4096 % 64 : Nat) : Int) := and_63_2 n (by omega)
  have hb2 : bits .or .i64 128 (((n / 4096 % 64 : Nat) : Int)) = ((128 + n / 4096 % 64 : Nat) : Int) := or_128 (n / 4096 % 64) (by omega)
  have hw2 : 128 + n / 4096 % 64 < 256 := by omega
  have ha1 : bits .and .i64 ((n : Int) / 64) 63 = ((n / 64 % 64 : Nat) : Int) := and_63_1 n (by omega)
  have hb1 : bits .or .i64 128 (((n / 64 % 64 : Nat) : Int)) = ((128 + n / 64 % 64 : Nat) : Int) := or_128 (n / 64 % 64) (by omega)
  have hw1 : 128 + n / 64 % 64 < 256 := by omega
  have ha0 : bits .and .i64 ((n : Int)) 63 = ((n % 64 : Nat) : Int) := and_63 n (by omega)
  have hb0 : bits .or .i64 128 (((n % 64 : Nat) : Int)) = ((128 + n % 64 : Nat) : Int) := or_128 (n % 64) (by omega)
  have hw0 : 128 + n % 64 < 256 := by omega
  obtain ⟨v, Hv⟩ : ∃ v, v = 240 + n / 262144 := ⟨_, rfl⟩
  rw [← Hv] at hv0 ho0
  obtain ⟨u2, Hu2⟩ : ∃ u2, u2 = n / 4096 % 64 := ⟨_, rfl⟩
  rw [← Hu2] at ha2 hb2 hw2
  obtain ⟨x2, Hx2⟩ : ∃ x2, x2 = 128 + u2 := ⟨_, rfl⟩
  rw [← Hx2] at hb2 hw2
  obtain ⟨u1, Hu1⟩ : ∃ u1, u1 = n / 64 % 64 := ⟨_, rfl⟩
  rw [← Hu1] at ha1 hb1 hw1
  obtain ⟨x1, Hx1⟩ : ∃ x1, x1 = 128 + u1 := ⟨_, rfl⟩
  rw [← Hx1] at hb1 hw1
  obtain ⟨u0, Hu0⟩ : ∃ u0, u0 = n % 64 := ⟨_, rfl⟩
  rw [← Hu0] at ha0 hb0 hw0
  obtain ⟨x0, Hx0⟩ : ∃ x0, x0 = 128 + u0 := ⟨_, rfl⟩
  rw [← Hx0] at hb0 hw0
  have hvals : ([.int .u8 (v : Int), .int .u8 (x2 : Int), .int .u8 (x1 : Int), .int .u8 (x0 : Int)] : List Value) = bval en := by rw [HE.out, Hv, Hx2, Hx1, Hx0, Hu2, Hu1, Hu0]; simp [bval]; refine ⟨?_, ?_, ?_, ?_⟩ <;> omega
  have HV := Lib.hid hvals
  clear hvals Hv Hx2 Hx1 Hx0 Hu2 Hu1 Hu0
  have hlen : en.length = 4 := by rw [HE.out]; rfl
  have HL := Lib.hid hlen
  clear hlen
  have ht : decide ((1114112 : Int) ≤ (n : Int)) = false := decide_eq_false (by omega)
  clear c4
  go_enter Tryd.func94, Tryd.ntmps94
  go_wp2_with fail
  refine (scalar_any _ _).mono ?_
  rintro e w' ⟨rfl, rfl⟩
  rw [hS]
  go_wp2
  refine wp_loop_rounds 5 ?_
  rw [rounds_succ]
  go_wp2
  rw [rounds_succ]
  go_wp2
  rw [rounds_succ]
  go_wp2
  rw [rounds_succ]
  go_wp2
  go_region
  go_wp2
  have hB0 : Below w.heap.size w (((w.alloc (.cells #[.int .i64 1114112, .int .i64 240, .int .i64 3] 131)).alloc (.cells #[.int .u8 (v : Int)] 5)).drew) := (((Below.refl _ w).alloc (Nat.le_refl _) _).alloc (by simp) _).drew
  have hown0 := (World.ownsRow_lit (base := w.heap.size) (e := 5) (size := 1) (w.alloc (.cells #[.int .i64 1114112, .int .i64 240, .int .i64 3] 131)) #[.int .u8 (v : Int)] 1 (by simp) (by simp [maxLen]) rfl).drew
  rw [World.size_alloc] at hown0
  generalize ((w.alloc (.cells #[.int .i64 1114112, .int .i64 240, .int .i64 3] 131)).alloc (.cells #[.int .u8 (v : Int)] 5)).drew = W0 at hB0 hown0 ⊢
  refine wp_loop_rounds 5 ?_
  rw [rounds_succ]
  go_wp2_with (first
    | (at_builtin
       refine wpList_append_rd _ rfl _ _ _ rfl w.heap.size 5 i0 _ 1 1 Tryd.underlying93 hi hz0 hz1 hz2 rfl (by omega) _ _ _ (hown0.alloc _) rfl _ 1 1 _ (Rd.new1 _ _ _) rfl (by simp [Value.oneCell']) (by unfold maxLen; omega) (by omega) (hB0.alloc hB0.size _).size 2 rfl _ rfl ?_
       intro A1 c1' w1 hown1 hg1 _
       have hB1 := below_append (hB0.alloc hB0.size _) (hown0.alloc _) hg1 (Nat.le_refl _) (hB0.alloc hB0.size _).size))
  rw [rounds_succ]
  go_wp2_with (first
    | (at_builtin
       refine wpList_append_rd _ rfl _ _ _ rfl w.heap.size 5 i0 _ 1 1 Tryd.underlying93 hi hz0 hz1 hz2 rfl (by omega) _ _ _ (hown1.alloc _) rfl _ 1 1 _ (Rd.new1 _ _ _) rfl (by simp [Value.oneCell']) (by unfold maxLen; omega) (by omega) (hB1.alloc hB1.size _).size 3 rfl _ rfl ?_
       intro A2 c2' w2 hown2 hg2 _
       have hB2 := below_append (hB1.alloc hB1.size _) (hown1.alloc _) hg2 (Nat.le_refl _) (hB1.alloc hB1.size _).size))
  rw [rounds_succ]
  go_wp2_with (first
    | (at_builtin
       refine wpList_append_rd _ rfl _ _ _ rfl w.heap.size 5 i0 _ 1 1 Tryd.underlying93 hi hz0 hz1 hz2 rfl (by omega) _ _ _ (hown2.alloc _) rfl _ 1 1 _ (Rd.new1 _ _ _) rfl (by simp [Value.oneCell']) (by unfold maxLen; omega) (by omega) (hB2.alloc hB2.size _).size 4 rfl _ rfl ?_
       intro A3 c3' w3 hown3 hg3 _
       have hB3 := below_append (hB2.alloc hB2.size _) (hown2.alloc _) hg3 (Nat.le_refl _) (hB2.alloc hB2.size _).size))
  rw [rounds_succ]
  go_wp2
  have hrd := Rd.of_own hown3
  simp only [List.cons_append, List.nil_append] at hrd
  rw [show (_ : List Value) = bval en from HV.out] at hrd
  rw [run_convert_bs (P := Tryd.prog) _ 93 9 5 Tryd.underlying93 Tryd.underlying5 Tryd.underlying9 hrd]
  go_wp2
  go_returns
  exact ⟨rfl, hB3⟩
set_option maxHeartbeats 1000000 in
set_option maxRecDepth 100000 in
theorem utfput_0 (c : Int) (w : World) (hs : scalarI c = false) :
    Calls Tryd.prog 94 #[.int .i64 c] w fun e w' => e = .returned (.tuple #[.string (str []), .bool false]) ∧ Below w.heap.size w w' := by
  go_enter Tryd.func94, Tryd.ntmps94
  go_wp2_with fail
  refine (scalar_any _ _).mono ?_
  rintro e w' ⟨rfl, rfl⟩
  rw [hs]
  go_wp2
  go_returns
  exact ⟨rfl, Below.refl _ _⟩
theorem utfput_any (c : Int) (w : World) (hF : Forms w) : Calls Tryd.prog 94 #[.int .i64 c] w fun e w' =>
    e = .returned (.tuple #[.string (str (encI c)), .bool (scalarI c)]) ∧ Below w.heap.size w w' := by
  by_cases hs : scalarI c = true
  · have hs2 := hs
    rw [hs]
    rw [scalarI_eq, decide_eq_true_eq] at hs
    obtain ⟨n, rfl⟩ : ∃ n : Nat, c = n := ⟨c.toNat, by omega⟩
    rw [encI_nat]
    rw [scalarI_nat] at hs2
    by_cases c1 : n < 128
    · exact utfput_1 n w hF hs2 c1
    · by_cases c2 : n < 2048
      · exact utfput_2 n w hF hs2 c1 c2
      · by_cases c3 : n < 65536
        · exact utfput_3 n w hF hs2 c1 c2 c3
        · exact utfput_4 n w hF hs2 c1 c2 c3 (by omega)
  · rw [Bool.not_eq_true] at hs
    rw [encI_none hs, hs]
    exact utfput_0 c w hs
end Go.Proofs.YthabfgpncebigaaDoor

/- tabulariumref02.guess. (Printed by gen_guess.py.) -/
namespace Go.Proofs.YthabfgpncebigaaDoor
open Go.RowKit

set_option maxHeartbeats 1000000 in
set_option maxRecDepth 100000 in
theorem guess_1 (b : UInt8) (l : List UInt8) (w : World) (hl : l = [b]) :
    Calls Tryd.prog 82 #[.string (str l)] w fun e w' => e = .returned (.int .i64 (guess l)) ∧ Below w.heap.size w w' := by
  have h0 : nth l 0 = (b.toNat : Int) := by rw [hl]; rfl
  have hlen : l.length = 1 := by rw [hl]; rfl
  have hg : guess l = (b.toNat : Int) := by rw [hl]; simp [guess, guessF, leadI]
  have hbb := b.toNat_lt
  have HG := Lib.hid hg
  generalize guess l = ans at *
  clear hl hg
  generalize b.toNat = b0 at *
  go_enter Tryd.func82, Tryd.ntmps82
  go_wp2
  go_quiet (fail)
  go_wp2
  go_rounds 3
  go_returns
  exact ⟨by rw [HG.out]; rfl, by repeat' (first | refine below_drewN ?_ _ | go_grown)⟩
set_option maxHeartbeats 1000000 in
set_option maxRecDepth 100000 in
theorem guess_2 (b x : UInt8) (l : List UInt8) (w : World) (hl : l = [b, x]) :
    Calls Tryd.prog 82 #[.string (str l)] w fun e w' => e = .returned (.int .i64 (guess l)) ∧ Below w.heap.size w w' := by
  have h0 : nth l 0 = (b.toNat : Int) := by rw [hl]; rfl
  have h1 : nth l 1 = (x.toNat : Int) := by rw [hl]; rfl
  have hlen : l.length = 2 := by rw [hl]; rfl
  have hg : guess l = (((b.toNat : Int) - 192) * 64 + (x.toNat : Int) - 128) := by rw [hl]; rfl
  have hbb := b.toNat_lt
  have hbx := x.toNat_lt
  have HG := Lib.hid hg
  generalize guess l = ans at *
  clear hl hg
  generalize b.toNat = b0 at *
  generalize x.toNat = x0 at *
  go_enter Tryd.func82, Tryd.ntmps82
  go_wp2
  go_quiet (fail)
  go_wp2
  go_rounds 4
  go_returns
  exact ⟨by rw [HG.out]; rfl, by repeat' (first | refine below_drewN ?_ _ | go_grown)⟩
set_option maxHeartbeats 1000000 in
set_option maxRecDepth 100000 in
theorem guess_3 (b x y : UInt8) (l : List UInt8) (w : World) (hl : l = [b, x, y]) :
    Calls Tryd.prog 82 #[.string (str l)] w fun e w' => e = .returned (.int .i64 (guess l)) ∧ Below w.heap.size w w' := by
  have h0 : nth l 0 = (b.toNat : Int) := by rw [hl]; rfl
  have h1 : nth l 1 = (x.toNat : Int) := by rw [hl]; rfl
  have h2 : nth l 2 = (y.toNat : Int) := by rw [hl]; rfl
  have hlen : l.length = 3 := by rw [hl]; rfl
  have hg : guess l = ((((b.toNat : Int) - 224) * 64 + (x.toNat : Int) - 128) * 64 + (y.toNat : Int) - 128) := by rw [hl]; rfl
  have hbb := b.toNat_lt
  have hbx := x.toNat_lt
  have hby := y.toNat_lt
  have HG := Lib.hid hg
  generalize guess l = ans at *
  clear hl hg
  generalize b.toNat = b0 at *
  generalize x.toNat = x0 at *
  generalize y.toNat = y0 at *
  go_enter Tryd.func82, Tryd.ntmps82
  go_wp2
  go_quiet (fail)
  go_wp2
  go_rounds 5
  go_returns
  exact ⟨by rw [HG.out]; rfl, by repeat' (first | refine below_drewN ?_ _ | go_grown)⟩
set_option maxHeartbeats 1000000 in
set_option maxRecDepth 100000 in
theorem guess_4 (b x y z : UInt8) (l : List UInt8) (w : World) (hl : l = [b, x, y, z]) :
    Calls Tryd.prog 82 #[.string (str l)] w fun e w' => e = .returned (.int .i64 (guess l)) ∧ Below w.heap.size w w' := by
  have h0 : nth l 0 = (b.toNat : Int) := by rw [hl]; rfl
  have h1 : nth l 1 = (x.toNat : Int) := by rw [hl]; rfl
  have h2 : nth l 2 = (y.toNat : Int) := by rw [hl]; rfl
  have h3 : nth l 3 = (z.toNat : Int) := by rw [hl]; rfl
  have hlen : l.length = 4 := by rw [hl]; rfl
  have hg : guess l = (((((b.toNat : Int) - 240) * 64 + (x.toNat : Int) - 128) * 64 + (y.toNat : Int) - 128) * 64 + (z.toNat : Int) - 128) := by rw [hl]; rfl
  have hbb := b.toNat_lt
  have hbx := x.toNat_lt
  have hby := y.toNat_lt
  have hbz := z.toNat_lt
  have HG := Lib.hid hg
  generalize guess l = ans at *
  clear hl hg
  generalize b.toNat = b0 at *
  generalize x.toNat = x0 at *
  generalize y.toNat = y0 at *
  generalize z.toNat = z0 at *
  go_enter Tryd.func82, Tryd.ntmps82
  go_wp2
  go_quiet (fail)
  go_wp2
  go_rounds 6
  go_returns
  exact ⟨by rw [HG.out]; rfl, by repeat' (first | refine below_drewN ?_ _ | go_grown)⟩
theorem guess_any (l : List UInt8) (w : World) (h1 : 1 ≤ l.length) (h4 : l.length ≤ 4) :
    Calls Tryd.prog 82 #[.string (str l)] w fun e w' => e = .returned (.int .i64 (guess l)) ∧ Below w.heap.size w w' := by
  match l, h1, h4 with
  | [b], _, _ => exact guess_1 b _ w rfl
  | [b, x], _, _ => exact guess_2 b x _ w rfl
  | [b, x, y], _, _ => exact guess_3 b x y _ w rfl
  | [b, x, y, z], _, _ => exact guess_4 b x y z _ w rfl
  | [], h, _ => simp at h
  | _ :: _ :: _ :: _ :: _ :: _, _, h => simp at h
end Go.Proofs.YthabfgpncebigaaDoor

/- tabulariumref02.One, Bad, Valid, All. -/
namespace Go.Proofs.YthabfgpncebigaaDoor
open Go.RowKit

theorem next_out2 {c n : Int} {t : Nat × Nat} (h1 : c = t.1) (h2 : n = t.2) : Ending.returned (.tuple #[.int .i64 c, .int .i64 n]) = .returned (.tuple #[.int .i64 t.1, .int .i64 t.2]) := by rw [h1, h2]
set_option maxHeartbeats 1000000 in
set_option maxRecDepth 100000 in
theorem one_any (l : List UInt8) (p : Nat) (w : World) (hp : p ≤ l.length) (hl : l.length ≤ 4611686018427387904) :
    Calls Tryd.prog 57 #[.string (str l), .int .i64 p] w fun e w' => e = .returned (.tuple #[.int .i64 (Utf.next (l.drop p)).1, .int .i64 (Utf.next (l.drop p)).2]) ∧ Below w.heap.size w w' := by
  go_enter Tryd.func57, Tryd.ntmps57
  go_wp2
  go_loopw [6] (fun nv wr => ∃ n : Nat, nv = .int .i64 n ∧ 1 ≤ n ∧ n ≤ 5 ∧ Below w.heap.size w wr ∧ Hid (∀ m, 1 ≤ m → m < n → m ≤ (l.drop p).length → encI (guess ((l.drop p).take m)) ≠ (l.drop p).take m)) (fun nv _ => 5 - (intOf nv).toNat)
  case atStart => exact ⟨1, rfl, by omega, by omega, Below.refl _ _, fun m h1 h2 => by omega⟩
  case round =>
    obtain ⟨n, rfl, h1, h5, hB, HM⟩ := hrel
    by_cases hn : n ≤ 4 ∧ p + n ≤ l.length
    · obtain ⟨hn4, hnl⟩ := hn
      obtain ⟨t, ht⟩ : ∃ t, t = (l.drop p).take n := ⟨_, rfl⟩
      have htl : t.length = n := by rw [ht, List.length_take, List.length_drop]; omega
      have hg := guess_any t wr (by omega) (by omega)
      have e1 : ((p : Int) + n).toNat - (p : Int).toNat = n := by omega
      have e2 : p + n - p = n := by omega
      have hsl : ∀ W : World, (Instr.slice 9 (.string (str l)) (some (.int .i64 (p : Int))) (some (.int .i64 ((p : Int) + n))) none).run Tryd.prog W = .ok (.string (str t)) W := fun W => by
        rw [run_slice_str W 9 l .i64 .i64 p ((p : Int) + n) Tryd.underlying9 (by omega), e1, Int.toNat_natCast, ← ht]
      have HT := Lib.hid ht
      clear ht e1 e2
      go_wp2_with fail
      refine hg.mono ?_
      rintro e w1 ⟨rfl, hB1⟩
      have hw : IntKind.i64.wrap ((p : Int) + n) = (p : Int) + n := IntWalk.i64_in _ (by omega)
      go_upto_region 5 with (fail)
      by_cases hm : encI (guess t) = t
      · obtain ⟨c, hc1, hc2⟩ := one_hit (l := l.drop p) (n := n) h1 (by rw [List.length_drop]; omega) (by rw [← HT.out]; exact hm)
        rw [← HT.out] at hc1
        have HC := Lib.hid hc2
        have hput := fun W => refput_any (guess t) W
        rw [hm] at hput
        have hb : (t == t) = true := beq_self_eq_true t
        rw [hc1] at hput ⊢
        clear hm hc1 hc2
        go_region_held3 (fun w' => Below w1.heap.size w1 w')
          (first
            | exact (Below.refl _ _).drew
            | exact Below.trans (by assumption) (hb5.mono (Below.size (by assumption)))
            | exact below_drewN (by assumption) _)
          (first
            | (go_at_call 83
               refine (hput _).mono ?_
               rintro e w5 ⟨rfl, hb5⟩))
        go_wp2
        go_returns
        refine ⟨next_out2 (by rw [HC.out]) (by rw [HC.out]), (hB.trans (hB1.mono hB.size)).trans ((by assumption : Below w1.heap.size w1 _).mono (Nat.le_trans hB.size hB1.size))⟩
      · have hb : (encI (guess t) == t) = false := by rw [beq_eq_false_iff_ne]; exact hm
        have HM2 : Hid (∀ m, 1 ≤ m → m < n + 1 → m ≤ (l.drop p).length → encI (guess ((l.drop p).take m)) ≠ (l.drop p).take m) := fun m a b c => by
          rcases Nat.lt_or_ge m n with g | g
          · exact HM.out m a g c
          · obtain rfl : m = n := by omega
            rw [← HT.out]; exact hm
        have hput := fun W => refput_any (guess t) W
        generalize encI (guess t) = en at *
        generalize guess t = g at *
        clear hm
        go_region_held3 (fun w' => Below w1.heap.size w1 w')
          (first
            | exact (Below.refl _ _).drew
            | exact Below.trans (by assumption) (hb5.mono (Below.size (by assumption)))
            | exact below_drewN (by assumption) _)
          (first
            | (go_at_call 83
               refine (hput _).mono ?_
               rintro e w5 ⟨rfl, hb5⟩))
        go_wp2
        go_roundw
        case rel => exact ⟨n + 1, by simp, by omega, by omega, (hB.trans (hB1.mono hB.size)).trans ((by assumption : Below w1.heap.size w1 _).mono (Nat.le_trans hB.size hB1.size)), HM2⟩
        case measure => simp [intOf]; omega
    · have hfin : Utf.next (l.drop p) = (0, 0) := one_miss fun m a b c => HM.out m a (by
        rw [List.length_drop] at c
        omega) c
      have HF := Lib.hid hfin
      clear hfin
      by_cases h4 : n ≤ 4
      · have hgt : l.length < p + n := by omega
        clear hn
        go_wp2
        go_returns
        exact ⟨next_out2 (by rw [HF.out]; rfl) (by rw [HF.out]; rfl), hB⟩
      · clear hn
        go_wp2
        go_returns
        exact ⟨next_out2 (by rw [HF.out]; rfl) (by rw [HF.out]; rfl), hB⟩
end Go.Proofs.YthabfgpncebigaaDoor
