/- UTF-8 in plain Lean: texts, joined; their order. -/
import GoSem.Op.String
import Derived.Test.YtpoameaaoapiiaaDoorUtf
namespace Go.Proofs.YtpoameaaoapiiaaDoor.Utf
open Go.Op

theorem bl_lt {a b : UInt8} {x y : List UInt8} (h : a.toNat < b.toNat) : bytesLess (a :: x) (b :: y) = true := by
  simp only [bytesLess, Bool.or_eq_true, decide_eq_true_eq]
  exact .inl (UInt8.lt_iff_toNat_lt.2 h)
theorem bl_gt {a b : UInt8} {x y : List UInt8} (h : b.toNat < a.toNat) : bytesLess (a :: x) (b :: y) = false := by
  have h1 : ¬ a < b := fun e => by have := UInt8.lt_iff_toNat_lt.1 e; omega
  have h2 : (a == b) = false := by simp only [beq_eq_false_iff_ne]; rintro rfl; omega
  simp [bytesLess, h1, h2]
theorem bl_eq (a : UInt8) (x y : List UInt8) : bytesLess (a :: x) (a :: y) = bytesLess x y := by
  have h1 : ¬ a < a := fun e => by have := UInt8.lt_iff_toNat_lt.1 e; omega
  simp [bytesLess, h1]
theorem bl_app : ∀ (p x y : List UInt8), bytesLess (p ++ x) (p ++ y) = bytesLess x y
  | [], _, _ => rfl
  | a :: p, x, y => by rw [List.cons_append, List.cons_append, bl_eq]; exact bl_app p x y

/-- l is before m, and m is not before l. -/
def Before (l m : List UInt8) : Prop := bytesLess l m = true ∧ bytesLess m l = false
theorem before_lt {a b : UInt8} {x y : List UInt8} (h : a.toNat < b.toNat) : Before (a :: x) (b :: y) := ⟨bl_lt h, bl_gt h⟩
theorem before_eq {a b : UInt8} {x y : List UInt8} (e : a.toNat = b.toNat) (h : Before x y) : Before (a :: x) (b :: y) := by
  obtain rfl : a = b := UInt8.toNat_inj.1 e
  exact ⟨by rw [bl_eq]; exact h.1, by rw [bl_eq]; exact h.2⟩
theorem before_ne {l m : List UInt8} (h : Before l m) : l ≠ m := by
  intro e
  subst e
  have h1 := h.1
  rw [h.2] at h1
  cases h1

theorem before_enc {c d : Nat} (hc : scalar c = true) (hd : scalar d = true) (h : c < d) (u v : List UInt8) : Before (enc c ++ u) (enc d ++ v) := by
  have sc := scalar_iff.1 hc
  have sd := scalar_iff.1 hd
  have e1 : ∀ n : Nat, n < 256 → (UInt8.ofNat n).toNat = n := fun n hn => toNat_ofNat hn
  unfold enc
  rw [if_neg (show ¬ scalar c = false by simp [hc]), if_neg (show ¬ scalar d = false by simp [hd])]
  by_cases c1 : c < 128
  · rw [if_pos c1]
    by_cases d1 : d < 128
    · rw [if_pos d1]; exact before_lt (by rw [e1 _ (by omega), e1 _ (by omega)]; exact h)
    · rw [if_neg d1]
      by_cases d2 : d < 2048
      · rw [if_pos d2]; exact before_lt (by rw [e1 _ (by omega), e1 _ (by omega)]; omega)
      · rw [if_neg d2]
        by_cases d3 : d < 65536
        · rw [if_pos d3]; exact before_lt (by rw [e1 _ (by omega), e1 _ (by omega)]; omega)
        · rw [if_neg d3]; exact before_lt (by rw [e1 _ (by omega), e1 _ (by omega)]; omega)
  · rw [if_neg c1]
    by_cases c2 : c < 2048
    · rw [if_pos c2, if_neg (show ¬ d < 128 by omega)]
      by_cases d2 : d < 2048
      · rw [if_pos d2]
        rcases Nat.lt_or_ge (c / 64) (d / 64) with g | g
        · exact before_lt (by rw [e1 _ (by omega), e1 _ (by omega)]; omega)
        · exact before_eq (by rw [e1 _ (by omega), e1 _ (by omega)]; omega) (before_lt (by rw [e1 _ (by omega), e1 _ (by omega)]; omega))
      · rw [if_neg d2]
        by_cases d3 : d < 65536
        · rw [if_pos d3]; exact before_lt (by rw [e1 _ (by omega), e1 _ (by omega)]; omega)
        · rw [if_neg d3]; exact before_lt (by rw [e1 _ (by omega), e1 _ (by omega)]; omega)
    · rw [if_neg c2, if_neg (show ¬ d < 128 by omega), if_neg (show ¬ d < 2048 by omega)]
      by_cases c3 : c < 65536
      · rw [if_pos c3]
        by_cases d3 : d < 65536
        · rw [if_pos d3]
          rcases Nat.lt_or_ge (c / 4096) (d / 4096) with g | g
          · exact before_lt (by rw [e1 _ (by omega), e1 _ (by omega)]; omega)
          · refine before_eq (by rw [e1 _ (by omega), e1 _ (by omega)]; omega) ?_
            rcases Nat.lt_or_ge (c / 64) (d / 64) with g2 | g2
            · exact before_lt (by rw [e1 _ (by omega), e1 _ (by omega)]; omega)
            · exact before_eq (by rw [e1 _ (by omega), e1 _ (by omega)]; omega) (before_lt (by rw [e1 _ (by omega), e1 _ (by omega)]; omega))
        · rw [if_neg d3]; exact before_lt (by rw [e1 _ (by omega), e1 _ (by omega)]; omega)
      · rw [if_neg c3, if_neg (show ¬ d < 65536 by omega)]
        rcases Nat.lt_or_ge (c / 262144) (d / 262144) with g | g
        · exact before_lt (by rw [e1 _ (by omega), e1 _ (by omega)]; omega)
        · refine before_eq (by rw [e1 _ (by omega), e1 _ (by omega)]; omega) ?_
          rcases Nat.lt_or_ge (c / 4096) (d / 4096) with g2 | g2
          · exact before_lt (by rw [e1 _ (by omega), e1 _ (by omega)]; omega)
          · refine before_eq (by rw [e1 _ (by omega), e1 _ (by omega)]; omega) ?_
            rcases Nat.lt_or_ge (c / 64) (d / 64) with g3 | g3
            · exact before_lt (by rw [e1 _ (by omega), e1 _ (by omega)]; omega)
            · exact before_eq (by rw [e1 _ (by omega), e1 _ (by omega)]; omega) (before_lt (by rw [e1 _ (by omega), e1 _ (by omega)]; omega))

/-- The scalars alone. -/
def codes (l : List UInt8) : List Nat := (all l).map (·.2)

theorem valid_cases {l : List UInt8} {p : Nat} (h : (scan l p).2 = p + l.length) : l = [] ∨ ∃ c r, scalar c = true ∧ l = enc c ++ r ∧ next l = (c, (enc c).length) ∧ 1 ≤ (enc c).length ∧
    scan l p = ((p, c) :: (scan r (p + (enc c).length)).1, (scan r (p + (enc c).length)).2) ∧ (scan r (p + (enc c).length)).2 = p + (enc c).length + r.length := by
  by_cases hz : (next l).2 = 0
  · rw [scan_no hz] at h
    have h' : p = p + l.length := h
    exact .inl (List.eq_nil_of_length_eq_zero (by omega))
  · refine .inr ⟨(next l).1, l.drop (next l).2, ?_⟩
    obtain ⟨h1, h2, h3, h4⟩ := next_some (l := l) (c := (next l).1) (n := (next l).2) rfl hz
    rw [scan_ok hz] at h ⊢
    refine ⟨h1, by rw [← h2, List.take_append_drop], by rw [← h3], by omega, by rw [h3], ?_⟩
    rw [← h3]
    simp only [List.length_drop] at h ⊢
    omega
theorem valid_ind {motive : List UInt8 → Nat → Prop} (h0 : ∀ p, motive [] p)
    (h1 : ∀ c r p, scalar c = true → (scan (enc c ++ r) p = ((p, c) :: (scan r (p + (enc c).length)).1, (scan r (p + (enc c).length)).2)) → (scan r (p + (enc c).length)).2 = p + (enc c).length + r.length → motive r (p + (enc c).length) → motive (enc c ++ r) p) :
    ∀ (k : Nat) (l : List UInt8) (p : Nat), l.length < k → (scan l p).2 = p + l.length → motive l p
  | 0, _, _, hk, _ => by omega
  | k + 1, l, p, hk, h => by
    rcases valid_cases h with rfl | ⟨c, r, hs, rfl, hn, hl, hsc, hr⟩
    · exact h0 p
    · exact h1 c r p hs hsc hr (valid_ind h0 h1 k r _ (by simp at hk; omega) hr)

/-- Two texts, one behind the other. -/
theorem scan_app (a b : List UInt8) (p : Nat) (h : (scan a p).2 = p + a.length) : scan (a ++ b) p = ((scan a p).1 ++ (scan b (p + a.length)).1, (scan b (p + a.length)).2) := by
  refine valid_ind (motive := fun a p => scan (a ++ b) p = ((scan a p).1 ++ (scan b (p + a.length)).1, (scan b (p + a.length)).2)) ?_ ?_ _ a p (Nat.lt_succ_self _) h
  · intro p; simp [scan_nil]
  · intro c r p hs hsc hr ih
    have hn := next_enc hs (r ++ b)
    have hl : (enc c).length ≠ 0 := fun e => by
      rw [List.length_eq_zero_iff, enc_nil, hs] at e
      cases e
    rw [hsc, List.append_assoc, scan_ok (by rw [hn]; exact hl), hn]
    simp only [List.drop_left']
    rw [ih]
    simp only [List.cons_append, List.length_append, Nat.add_assoc]

theorem scan_length : ∀ (k : Nat) (l : List UInt8) (p : Nat), l.length < k → (scan l p).1.length ≤ l.length
  | 0, _, _, h => by omega
  | k + 1, l, p, hk => by
    by_cases h : (next l).2 = 0
    · rw [scan_no h]; exact Nat.zero_le _
    · have hl := next_le (l := l)
      have := scan_length k (l.drop (next l).2) (p + (next l).2) (by simp; omega)
      rw [scan_ok h, List.length_cons]
      simp only [List.length_drop] at this
      omega
theorem all_length (l : List UInt8) : (all l).length ≤ l.length := scan_length _ l 0 (Nat.lt_succ_self _)

/-- Where a scan begins makes no difference but to the places. -/
theorem scan_shift : ∀ (k : Nat) (l : List UInt8) (p q : Nat), l.length < k → (scan l (p + q)).1 = (scan l p).1.map (fun x => (x.1 + q, x.2)) ∧ (scan l (p + q)).2 = (scan l p).2 + q
  | 0, _, _, _, h => by omega
  | k + 1, l, p, q, hk => by
    by_cases h : (next l).2 = 0
    · rw [scan_no h, scan_no h]; simp
    · have hl := next_le (l := l)
      have ih := scan_shift k (l.drop (next l).2) (p + (next l).2) q (by simp; omega)
      rw [scan_ok h, scan_ok h, show p + q + (next l).2 = p + (next l).2 + q by omega]
      simp only [List.map_cons, ih.1, ih.2, and_self]

theorem valid_iff {l : List UInt8} : valid l = true ↔ (scan l 0).2 = 0 + l.length := by
  rw [Nat.zero_add]
  exact ⟨fun h => of_decide_eq_true h, fun h => decide_eq_true h⟩

/-- Two texts are in order as their scalars are. -/
theorem order_same (a : List UInt8) (p : Nat) (ha' : (scan a p).2 = p + a.length) : ∀ {b : List UInt8} {q : Nat}, (scan b q).2 = q + b.length → (∀ i, (hi : i < (scan a p).1.length) → (hj : i < (scan b q).1.length) → (scan a p).1[i].2 = (scan b q).1[i].2) →
    (bytesLess a b = decide ((scan a p).1.length < (scan b q).1.length)) ∧ (decide (a = b) = decide ((scan a p).1.length = (scan b q).1.length)) := by
  refine valid_ind (motive := fun a p => ∀ {b : List UInt8} {q : Nat}, (scan b q).2 = q + b.length → (∀ i, (hi : i < (scan a p).1.length) → (hj : i < (scan b q).1.length) → (scan a p).1[i].2 = (scan b q).1[i].2) →
    (bytesLess a b = decide ((scan a p).1.length < (scan b q).1.length)) ∧ (decide (a = b) = decide ((scan a p).1.length = (scan b q).1.length))) ?_ ?_ _ a p (Nat.lt_succ_self _) ha'
  · intro p b q hb _
    rcases valid_cases hb with rfl | ⟨c, r, hs, rfl, hn, hl, hsc, hr⟩
    · simp [scan_nil, bytesLess]
    · rw [hsc, scan_nil]
      have hne : enc c ++ r ≠ [] := by intro e; simp at e; rw [e.1] at hl; simp at hl
      obtain ⟨x, t, ht⟩ := List.exists_cons_of_ne_nil hne
      rw [ht]
      simp [bytesLess]
  · intro c r p hs hsc hr ih b q hb heq
    rcases valid_cases hb with rfl | ⟨d, t, hd, rfl, hn, hl, hsd, ht⟩
    · rw [hsc, scan_nil]
      have hne : enc c ++ r ≠ [] := by intro e; simp at e; exact absurd e.1 (by intro e2; rw [enc_nil] at e2; rw [hs] at e2; cases e2)
      obtain ⟨x, u, hu⟩ := List.exists_cons_of_ne_nil hne
      rw [hu]
      simp [bytesLess]
    · have h0 := heq 0 (by rw [hsc]; simp) (by rw [hsd]; simp)
      simp only [hsc, hsd, List.getElem_cons_zero] at h0
      subst h0
      have ih2 := ih ht (fun i hi hj => by
        have := heq (i + 1) (by rw [hsc]; simpa using hi) (by rw [hsd]; simpa using hj)
        simpa only [hsc, hsd, List.getElem_cons_succ] using this)
      rw [hsc, hsd, bl_app]
      simp only [List.length_cons, Nat.add_lt_add_iff_right, Nat.add_right_cancel_iff, List.append_cancel_left_eq]
      exact ih2
theorem order_step {a b : List UInt8} (ha : valid a = true) (hb : valid b = true)
    (h : ∀ i, (hi : i < (all a).length) → (hj : i < (all b).length) → (all a)[i].2 = (all b)[i].2) :
    (bytesLess a b = decide ((all a).length < (all b).length)) ∧ (decide (a = b) = decide ((all a).length = (all b).length)) :=
  order_same a 0 (valid_iff.1 ha) (valid_iff.1 hb) h

theorem order_diff (a : List UInt8) (p : Nat) (ha' : (scan a p).2 = p + a.length) : ∀ {b : List UInt8} {q : Nat} (i : Nat) (hi : i < (scan a p).1.length) (hj : i < (scan b q).1.length), (∀ j, (h : j < i) → (scan a p).1[j].2 = (scan b q).1[j].2) → (scan a p).1[i].2 ≠ (scan b q).1[i].2 → (scan b q).2 = q + b.length →
    bytesLess a b = decide ((scan a p).1[i].2 < (scan b q).1[i].2) ∧ a ≠ b := by
  refine valid_ind (motive := fun a p => ∀ {b : List UInt8} {q : Nat} (i : Nat) (hi : i < (scan a p).1.length) (hj : i < (scan b q).1.length), (∀ j, (h : j < i) → (scan a p).1[j].2 = (scan b q).1[j].2) → (scan a p).1[i].2 ≠ (scan b q).1[i].2 → (scan b q).2 = q + b.length →
    bytesLess a b = decide ((scan a p).1[i].2 < (scan b q).1[i].2) ∧ a ≠ b) ?_ ?_ _ a p (Nat.lt_succ_self _) ha'
  · intro p b q i hi
    simp [scan_nil] at hi
  · intro c r p hs hsc hr ih b q i hi hj heq hne hb
    rcases valid_cases hb with rfl | ⟨d, t, hd, rfl, hn, hl, hsd, ht⟩
    · simp [scan_nil] at hj
    · match i with
      | 0 =>
        simp only [hsc, hsd, List.getElem_cons_zero] at hne ⊢
        rcases Nat.lt_or_ge c d with g | g
        · have := before_enc hs hd g r t
          exact ⟨by rw [this.1]; simp [g], before_ne this⟩
        · have := before_enc hd hs (show d < c by omega) t r
          exact ⟨by rw [this.2]; simp; omega, (before_ne this).symm⟩
      | i + 1 =>
        have h0 := heq 0 (by omega)
        simp only [hsc, hsd, List.getElem_cons_zero] at h0
        subst h0
        simp only [hsc, hsd, List.length_cons, Nat.add_lt_add_iff_right] at hi hj
        simp only [hsc, hsd, List.getElem_cons_succ] at hne ⊢
        have := ih i hi hj (fun j h => by
          have := heq (j + 1) (by omega)
          simpa only [hsc, hsd, List.getElem_cons_succ] using this) hne ht
        rw [bl_app]
        exact ⟨this.1, fun e => this.2 (List.append_cancel_left e)⟩
theorem order_first {a b : List UInt8} (ha : valid a = true) (hb : valid b = true) (i : Nat) (hi : i < (all a).length) (hj : i < (all b).length)
    (heq : ∀ j, (h : j < i) → (all a)[j].2 = (all b)[j].2) (hne : (all a)[i].2 ≠ (all b)[i].2) :
    bytesLess a b = decide ((all a)[i].2 < (all b)[i].2) ∧ a ≠ b :=
  order_diff a 0 (valid_iff.1 ha) i hi hj heq hne (valid_iff.1 hb)
end Go.Proofs.YtpoameaaoapiiaaDoor.Utf
