/- Varints, in plain Lean: the numbers of bytes, one by one. -/
import Derived.Test.YtgahgljfdoedjaaVar
namespace Go.Proofs.Ytgahgljfdoedjaa.Var

/-- The numbers of bytes, one by one. -/
def allF : Nat → List UInt8 → List Nat
  | 0, _ => []
  | k + 1, l => if (get l).2.2 = 0 then (get l).1 :: allF k (l.drop (get l).2.1) else []
def all (l : List UInt8) : List Nat := allF (l.length + 1) l
theorem get_size {l : List UInt8} (h : (get l).2.2 = 0) : 1 ≤ (get l).2.1 ∧ (get l).2.1 ≤ l.length := by
  rcases hg : get l with ⟨n, s, e⟩
  rw [hg] at h
  simp only at h
  subst h
  have := put_get hg
  exact ⟨this.2.2.2, this.2.1⟩
theorem allF_fuel : ∀ (k m : Nat) (l : List UInt8), l.length < k → l.length < m → allF k l = allF m l
  | 0, _, _, h, _ => by omega
  | _, 0, _, _, h => by omega
  | k + 1, m + 1, l, hk, hm => by
    unfold allF
    by_cases h : (get l).2.2 = 0
    · have hs := get_size h
      rw [if_pos h, if_pos h, allF_fuel k m (l.drop (get l).2.1) (by simp; omega) (by simp; omega)]
    · rw [if_neg h, if_neg h]
theorem all_ok {l : List UInt8} (h : (get l).2.2 = 0) : all l = (get l).1 :: all (l.drop (get l).2.1) := by
  have hs := get_size h
  unfold all
  rw [allF, if_pos h, allF_fuel l.length ((l.drop (get l).2.1).length + 1) _ (by simp; omega) (by omega)]
theorem all_no {l : List UInt8} (h : (get l).2.2 ≠ 0) : all l = [] := by
  unfold all; rw [allF, if_neg h]
theorem get_lt {l : List UInt8} (h : (get l).2.2 = 0) : (get l).1 < 18446744073709551616 := by
  rcases hg : get l with ⟨n, s, e⟩
  rw [hg] at h
  simp only at h
  subst h
  exact (put_get hg).2.2.1
/-- Numbers, one behind the other. -/
def list : List Nat → List UInt8
  | [] => []
  | n :: r => put n ++ list r
theorem all_list : ∀ (l : List Nat), (∀ n ∈ l, n < 18446744073709551616) → all (list l) = l
  | [], _ => by simp [list, all, allF, get, getF]
  | n :: r, h => by
    have hg := get_put n (list r) (h n (by simp))
    have he : (get (list (n :: r))).2.2 = 0 := by rw [list, hg]
    rw [all_ok he, list, hg]
    simp only [List.drop_left']
    rw [all_list r (fun x hx => h x (by simp [hx]))]
theorem list_length : ∀ (l : List Nat), (list l).length ≤ 10 * l.length
  | [] => by simp [list]
  | n :: r => by
    have := list_length r
    have := (put_length n).2
    simp [list]; omega
theorem list_snoc : ∀ (l : List Nat) (n : Nat), list (l ++ [n]) = list l ++ put n
  | [], n => by simp [list]
  | m :: r, n => by simp [list, list_snoc r n]
theorem allF_length : ∀ (k : Nat) (l : List UInt8), (allF k l).length ≤ l.length
  | 0, l => by simp [allF]
  | k + 1, l => by
    unfold allF
    by_cases h : (get l).2.2 = 0
    · have hs := get_size h
      have := allF_length k (l.drop (get l).2.1)
      rw [if_pos h]
      simp at this ⊢
      omega
    · rw [if_neg h]; simp
theorem all_length (l : List UInt8) : (all l).length ≤ l.length := allF_length _ l
theorem allF_lt : ∀ (k : Nat) (l : List UInt8), ∀ n ∈ allF k l, n < 18446744073709551616
  | 0, l => by simp [allF]
  | k + 1, l => by
    unfold allF
    by_cases h : (get l).2.2 = 0
    · rw [if_pos h]
      intro n hn
      rcases List.mem_cons.1 hn with rfl | hn
      · exact get_lt h
      · exact allF_lt k _ n hn
    · rw [if_neg h]; simp
end Go.Proofs.Ytgahgljfdoedjaa.Var
