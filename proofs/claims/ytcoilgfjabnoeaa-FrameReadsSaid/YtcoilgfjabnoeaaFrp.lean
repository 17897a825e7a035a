/- Frames in plain Lean. No program in sight. -/
import Derived.Test.YtcoilgfjabnoeaaVar
namespace Go.Proofs.Ytcoilgfjabnoeaa.Fr

/-- The rest, the error, what was told: the next frame of bytes, of at most so many. -/
def frame (l : List UInt8) (most : Nat) : List UInt8 × Nat × List UInt8 :=
  if (Var.get l).2.2 ≠ 0 then (l, (Var.get l).2.2, [])
  else if most < (Var.get l).1 then (l, 4, [])
  else if l.length - (Var.get l).2.1 < (Var.get l).1 then (l, 2, [])
  else ((l.drop (Var.get l).2.1).drop (Var.get l).1, 0, (l.drop (Var.get l).2.1).take (Var.get l).1)
theorem get_size {l : List UInt8} (h : (Var.get l).2.2 = 0) : 1 ≤ (Var.get l).2.1 ∧ (Var.get l).2.1 ≤ l.length ∧ (Var.get l).1 < 18446744073709551616 ∧ Var.put (Var.get l).1 = l.take (Var.get l).2.1 := by
  have := Var.put_get (l := l) (n := (Var.get l).1) (s := (Var.get l).2.1) (by rw [← h])
  exact ⟨this.2.2.2, this.2.1, this.2.2.1, this.1⟩
theorem frame_bad {l : List UInt8} {m : Nat} (h : (frame l m).2.1 ≠ 0) : (frame l m).1 = l ∧ (frame l m).2.2 = [] := by
  unfold frame at *
  split
  · exact ⟨rfl, rfl⟩
  · split
    · exact ⟨rfl, rfl⟩
    · split
      · exact ⟨rfl, rfl⟩
      · rename_i h1 h2 h3; rw [if_neg h1, if_neg h2, if_neg h3] at h; exact absurd rfl h
theorem frame_ok {l : List UInt8} {m : Nat} (h : (frame l m).2.1 = 0) : (Var.get l).2.2 = 0 ∧ (Var.get l).1 ≤ m ∧ (Var.get l).1 + (Var.get l).2.1 ≤ l.length ∧
    frame l m = ((l.drop (Var.get l).2.1).drop (Var.get l).1, 0, (l.drop (Var.get l).2.1).take (Var.get l).1) := by
  unfold frame at *
  split
  · rename_i h1; rw [if_pos h1] at h; exact absurd h h1
  · rename_i h1
    rw [if_neg h1] at h
    have hz : (Var.get l).2.2 = 0 := by simpa using h1
    split
    · rename_i h2; rw [if_pos h2] at h; cases h
    · rename_i h2
      rw [if_neg h2] at h
      split
      · rename_i h3; rw [if_pos h3] at h; cases h
      · have := get_size hz; exact ⟨hz, by omega, by omega, rfl⟩
theorem frame_rest {l : List UInt8} {m : Nat} (h : (frame l m).2.1 = 0) : (frame l m).1.length < l.length := by
  obtain ⟨h1, _, h3, e⟩ := frame_ok h
  have := get_size h1
  rw [e]; simp; omega

/-- The frames of bytes, the error. -/
def splitF : Nat → List UInt8 → List (List UInt8) × Nat
  | 0, _ => ([], 0)
  | _ + 1, [] => ([], 0)
  | k + 1, c :: l =>
    let f := frame (c :: l) 9223372036854775807
    if f.2.1 ≠ 0 then ([], f.2.1) else
    let r := splitF k f.1
    if r.2 ≠ 0 then ([], r.2) else (f.2.2 :: r.1, 0)
def split (l : List UInt8) : List (List UInt8) × Nat := splitF l.length l
theorem splitF_fuel : ∀ (k m : Nat) (l : List UInt8), l.length ≤ k → l.length ≤ m → splitF k l = splitF m l
  | 0, 0, _, _, _ => rfl
  | 0, m + 1, l, h, _ => by
    have : l = [] := List.eq_nil_of_length_eq_zero (by omega)
    subst this; rfl
  | k + 1, 0, l, _, h => by
    have : l = [] := List.eq_nil_of_length_eq_zero (by omega)
    subst this; rfl
  | k + 1, m + 1, [], _, _ => rfl
  | k + 1, m + 1, c :: l, h1, h2 => by
    simp only [splitF]
    by_cases h : (frame (c :: l) 9223372036854775807).2.1 = 0
    · have hr := frame_rest h
      simp only [h, ne_eq, not_true_eq_false, if_false]
      rw [splitF_fuel k m _ (by simp at hr h1; omega) (by simp at hr h2; omega)]
    · simp only [h, ne_eq, not_false_eq_true, if_true]
theorem split_nil : split [] = ([], 0) := rfl
theorem split_bad {l : List UInt8} (h0 : l ≠ []) (h : (frame l 9223372036854775807).2.1 ≠ 0) : split l = ([], (frame l 9223372036854775807).2.1) := by
  cases l with
  | nil => exact absurd rfl h0
  | cons c l => unfold split; simp only [List.length_cons, splitF, if_pos h]
theorem split_ok {l : List UInt8} (h0 : l ≠ []) (h : (frame l 9223372036854775807).2.1 = 0) :
    split l = if (split (frame l 9223372036854775807).1).2 ≠ 0 then ([], (split (frame l 9223372036854775807).1).2) else ((frame l 9223372036854775807).2.2 :: (split (frame l 9223372036854775807).1).1, 0) := by
  cases l with
  | nil => exact absurd rfl h0
  | cons c l =>
    have hr := frame_rest h
    unfold split
    simp only [List.length_cons, splitF]
    rw [if_neg (by rw [h]; decide), splitF_fuel l.length _ _ (by simp at hr; omega) (Nat.le_refl _)]
/-- What stands so far, and what is to come. -/
def more (fs : List (List UInt8)) (r : List (List UInt8) × Nat) : List (List UInt8) × Nat := if r.2 ≠ 0 then ([], r.2) else (fs ++ r.1, 0)
theorem more_nil (r : List (List UInt8) × Nat) (h : r.2 ≠ 0 → r.1 = []) : more [] r = r := by
  unfold more
  split
  · rename_i h1; rw [← h h1]
  · rename_i h1; rw [List.nil_append, show (0 : Nat) = r.2 by simpa using Eq.symm (by simpa using h1)]
theorem split_err : ∀ (k : Nat) (l : List UInt8), (splitF k l).2 ≠ 0 → (splitF k l).1 = []
  | 0, _, h => rfl
  | _ + 1, [], h => rfl
  | k + 1, c :: l, h => by
    simp only [splitF] at *
    split
    · rfl
    · rename_i h1
      rw [if_neg h1] at h
      split
      · rfl
      · rename_i h2; rw [if_neg h2] at h; exact absurd rfl h
theorem more_step {l : List UInt8} (fs : List (List UInt8)) (h0 : l ≠ []) (h : (frame l 9223372036854775807).2.1 = 0) : more fs (split l) = more (fs ++ [(frame l 9223372036854775807).2.2]) (split (frame l 9223372036854775807).1) := by
  rw [split_ok h0 h]
  unfold more
  by_cases h2 : (split (frame l 9223372036854775807).1).2 = 0
  · simp [h2]
  · simp [h2]
/-- Frames put. -/
def put : List (List UInt8) → List UInt8
  | [] => []
  | b :: l => Var.put b.length ++ b ++ put l
theorem put_append (a b : List (List UInt8)) : put (a ++ b) = put a ++ put b := by
  induction a with
  | nil => rfl
  | cons x a ih => simp [put, ih]
theorem put_snoc (a : List (List UInt8)) (b : List UInt8) : put (a ++ [b]) = (put a ++ Var.put b.length) ++ b := by
  rw [put_append]; simp [put]
theorem frame_put (b r : List UInt8) (h : b.length < 9223372036854775808) : frame (Var.put b.length ++ b ++ r) 9223372036854775807 = (r, 0, b) := by
  have hg := Var.get_put b.length (b ++ r) (by omega)
  unfold frame
  rw [List.append_assoc, hg]
  simp only [ne_eq, not_true_eq_false, if_false]
  rw [if_neg (by omega), if_neg (by simp), List.drop_left, List.drop_left, List.take_left]
theorem put_ne (b r : List UInt8) : Var.put b.length ++ b ++ r ≠ [] := by
  have := Var.put_length b.length
  intro h
  have h2 := (List.append_eq_nil_iff.1 (List.append_eq_nil_iff.1 h).1).1
  rw [h2] at this; simp at this
theorem split_put : ∀ (fs : List (List UInt8)), (∀ b ∈ fs, b.length < 9223372036854775808) → split (put fs) = (fs, 0)
  | [], _ => rfl
  | b :: fs, h => by
    have hf := frame_put b (put fs) (h b (by simp))
    have hs := split_put fs (fun x hx => h x (by simp [hx]))
    rw [put, split_ok (put_ne b _) (by rw [hf]), hf, hs]
    simp
theorem put_split : ∀ (k : Nat) (l : List UInt8), l.length ≤ k → (split l).2 = 0 → put (split l).1 = l
  | k, [], _, _ => rfl
  | 0, c :: l, h, _ => by simp at h
  | k + 1, c :: l, hk, h => by
    by_cases hf : (frame (c :: l) 9223372036854775807).2.1 = 0
    · have hso := split_ok (by simp : (c :: l) ≠ []) hf
      by_cases h2 : (split (frame (c :: l) 9223372036854775807).1).2 = 0
      · rw [if_neg (by rw [h2]; decide)] at hso
        have hr := frame_rest hf
        obtain ⟨g1, g2, g3, e⟩ := frame_ok hf
        have ih := put_split k (frame (c :: l) 9223372036854775807).1 (by simp at hr hk ⊢; omega) h2
        rw [hso]
        simp only [put]
        rw [ih, e]
        have hgs := get_size g1
        generalize (c :: l) = L at *
        have e1 : ((L.drop (Var.get L).2.1).take (Var.get L).1).length = (Var.get L).1 := by simp; omega
        simp only [e1]
        rw [hgs.2.2.2, List.append_assoc, List.take_append_drop, List.take_append_drop]
      · rw [if_pos h2] at hso
        rw [hso] at h
        exact absurd h h2
    · rw [split_bad (by simp) hf] at h
      exact absurd h hf
theorem put_of_split {l : List UInt8} (h : (split l).2 = 0) : put (split l).1 = l := put_split l.length l (Nat.le_refl _) h
theorem put_ok {l : List UInt8} (h : (split l).2 ≠ 0) : (split l).1 = [] := split_err _ _ h
/-- Frames that are cut short lack something, or are fewer. -/
theorem split_cut : ∀ (fs : List (List UInt8)) (n : Nat), (∀ b ∈ fs, b.length < 9223372036854775808) → (split ((put fs).take n)).2 = 0 ∨ (split ((put fs).take n)).2 = 2
  | [], n, _ => by simp [put, split_nil]
  | b :: fs, n, h => by
    have hp := Var.put_length b.length
    by_cases h0 : n = 0
    · subst h0; left; rfl
    · have hne : (put (b :: fs)).take n ≠ [] := by
        intro e
        rcases List.take_eq_nil_iff.1 e with e | e
        · exact h0 e
        · exact put_ne b (put fs) e
      by_cases hn : n < (Var.put b.length).length + b.length
      · right
        have hfr : (frame ((put (b :: fs)).take n) 9223372036854775807).2.1 = 2 := by
          simp only [put, List.append_assoc]
          by_cases hn2 : n < (Var.put b.length).length
          · rw [List.take_append_of_le_length (by omega)]
            have hc := Var.get_cut (n := b.length) (j := n) (by have := h b (by simp); omega) hn2
            unfold frame; rw [hc]; simp
          · rw [List.take_append, List.take_of_length_le (by omega)]
            have hc := Var.get_put b.length ((b ++ put fs).take (n - (Var.put b.length).length)) (by have := h b (by simp); omega)
            unfold frame
            rw [hc]
            have := h b (by simp)
            simp only [ne_eq, not_true_eq_false, if_false]
            rw [if_neg (by omega), if_pos (by simp; omega)]
        rw [split_bad hne (by rw [hfr]; decide), hfr]
      · have e : (put (b :: fs)).take n = Var.put b.length ++ b ++ (put fs).take (n - ((Var.put b.length).length + b.length)) := by
          simp only [put]
          rw [List.take_append, List.take_of_length_le (by simp; omega), List.length_append]
        have hf := frame_put b ((put fs).take (n - ((Var.put b.length).length + b.length))) (h b (by simp))
        have ih := split_cut fs (n - ((Var.put b.length).length + b.length)) (fun x hx => h x (by simp [hx]))
        rw [e, split_ok (put_ne _ _) (by rw [hf]), hf]
        simp only
        rcases ih with ih | ih
        · left; rw [if_neg (by rw [ih]; decide)]
        · right; rw [if_pos (by rw [ih]; decide)]; exact ih
end Go.Proofs.Ytcoilgfjabnoeaa.Fr
