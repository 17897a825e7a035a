/- UTF-8 in plain Lean: a scalar found by trying. -/
import Derived.Test.YtpoameaaoapiiaaDoorUtf2
import Derived.Test.YtpoameaaoapiiaaDoorUw7
namespace Go.Proofs.YtpoameaaoapiiaaDoor
open Go.RowKit

/-- What so many bytes would be as a scalar. -/
def guessF : Int → List UInt8 → Int
  | c, [] => c
  | c, x :: r => guessF (c * 64 + (x.toNat : Int) - 128) r
def leadI (n : Nat) : Int := if n = 1 then 0 else if n = 2 then 192 else if n = 3 then 224 else 240
def guess : List UInt8 → Int
  | [] => 0
  | b :: r => guessF ((b.toNat : Int) - leadI (r.length + 1)) r

theorem guess_enc {c : Nat} (hs : Utf.scalar c = true) : guess (Utf.enc c) = c := by
  have e : ∀ n : Nat, n < 256 → ((UInt8.ofNat n).toNat : Int) = (n : Int) := fun n hn => by rw [Utf.toNat_ofNat hn]
  have hc := Utf.scalar_iff.1 hs
  by_cases c1 : c < 128
  · rw [enc_1 hs c1]
    simp only [guess, guessF, leadI, List.length_nil]
    rw [e _ (by omega)]; simp
  · by_cases c2 : c < 2048
    · rw [enc_2 hs c1 c2]
      simp only [guess, guessF, leadI, List.length_nil, List.length_cons]
      rw [e _ (by omega), e _ (by omega)]; simp; omega
    · by_cases c3 : c < 65536
      · rw [enc_3 hs c1 c2 c3]
        simp only [guess, guessF, leadI, List.length_nil, List.length_cons]
        rw [e _ (by omega), e _ (by omega), e _ (by omega)]; simp; omega
      · rw [enc_4 hs c1 c2 c3]
        simp only [guess, guessF, leadI, List.length_nil, List.length_cons]
        rw [e _ (by omega), e _ (by omega), e _ (by omega), e _ (by omega)]; simp; omega
theorem one_hit {l : List UInt8} {n : Nat} (h1 : 1 ≤ n) (hn : n ≤ l.length) (h : encI (guess (l.take n)) = l.take n) : ∃ c : Nat, guess (l.take n) = c ∧ Utf.next l = (c, n) := by
  have hne : l.take n ≠ [] := by intro e; have := congrArg List.length e; rw [List.length_take, Nat.min_eq_left hn, List.length_nil] at this; omega
  obtain ⟨g, hg⟩ : ∃ g, g = guess (l.take n) := ⟨_, rfl⟩
  rw [← hg] at h
  have h0 : 0 ≤ g := by
    unfold encI at h
    split at h
    · assumption
    · exact absurd h.symm hne
  obtain ⟨c, rfl⟩ : ∃ c : Nat, g = c := ⟨g.toNat, by omega⟩
  rw [encI_nat] at h
  have hs : Utf.scalar c = true := by
    cases hs : Utf.scalar c with
    | true => rfl
    | false => rw [Utf.enc_nil.2 hs] at h; exact absurd h.symm hne
  refine ⟨c, hg.symm, ?_⟩
  have hx := Utf.next_enc hs (l.drop n)
  rw [h, List.take_append_drop, List.length_take, Nat.min_eq_left hn] at hx
  exact hx
theorem one_miss {l : List UInt8} (h : ∀ n, 1 ≤ n → n ≤ 4 → n ≤ l.length → encI (guess (l.take n)) ≠ l.take n) : Utf.next l = (0, 0) := by
  refine (Utf.next_or l).resolve_right fun hz => ?_
  obtain ⟨h1, h2, h3, h4⟩ := Utf.next_some (l := l) (c := (Utf.next l).1) (n := (Utf.next l).2) rfl hz
  have h5 := Utf.enc_length_le (Utf.next l).1
  exact h (Utf.next l).2 (by omega) (by omega) h4 (by rw [h2, guess_enc h1, encI_nat])
end Go.Proofs.YtpoameaaoapiiaaDoor
