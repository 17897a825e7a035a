/- tabulariumlaw02.same; tabulariumref02.Put. -/
import Derived.Test.YtpoameaaoapiiaaDoorUw5a
namespace Go.Proofs.YtpoameaaoapiiaaDoor
open Go.RowKit

/-- The string that a number is written as. -/
def encI (c : Int) : List UInt8 := if 0 ≤ c then Utf.enc c.toNat else []
theorem encI_nat (c : Nat) : encI (c : Int) = Utf.enc c := by unfold encI; rw [if_pos (by omega)]; rfl
theorem encI_none {c : Int} (h : scalarI c = false) : encI c = [] := by
  unfold encI
  split
  · rename_i h0
    rw [Utf.enc_nil]
    simp only [scalarI, Bool.and_eq_false_iff, decide_eq_false_iff_not] at h
    rcases h with h | h
    · exact absurd h0 h
    · exact h
  · rfl
theorem bs_new (w : World) (e : TypeId) (cs : List Value) (l : List UInt8) (h : cs = bval l) (hm : l.length ≤ maxLen) (g n c : Nat) (hg : g = w.heap.size) (hn : n = l.length) (hc : c = l.length) : Bs (w.alloc (.cells cs.toArray e)) (some ⟨g, 0, none⟩) n c l := by
  subst h hg hn hc
  have := Rd.new w e (bval l) (by rw [bval_length]; exact hm)
  rw [bval_length] at this
  exact this
theorem enc_1 {n : Nat} (hs : Utf.scalar n = true) (h : n < 128) : Utf.enc n = [UInt8.ofNat n] := by
  unfold Utf.enc; rw [if_neg (by simp [hs]), if_pos h]
theorem enc_2 {n : Nat} (hs : Utf.scalar n = true) (h1 : ¬ n < 128) (h : n < 2048) : Utf.enc n = [UInt8.ofNat (192 + n / 64), UInt8.ofNat (128 + n % 64)] := by
  unfold Utf.enc; rw [if_neg (by simp [hs]), if_neg h1, if_pos h]
theorem enc_3 {n : Nat} (hs : Utf.scalar n = true) (h1 : ¬ n < 128) (h2 : ¬ n < 2048) (h : n < 65536) : Utf.enc n = [UInt8.ofNat (224 + n / 4096), UInt8.ofNat (128 + n / 64 % 64), UInt8.ofNat (128 + n % 64)] := by
  unfold Utf.enc; rw [if_neg (by simp [hs]), if_neg h1, if_neg h2, if_pos h]
theorem enc_4 {n : Nat} (hs : Utf.scalar n = true) (h1 : ¬ n < 128) (h2 : ¬ n < 2048) (h3 : ¬ n < 65536) : Utf.enc n = [UInt8.ofNat (240 + n / 262144), UInt8.ofNat (128 + n / 4096 % 64), UInt8.ofNat (128 + n / 64 % 64), UInt8.ofNat (128 + n % 64)] := by
  unfold Utf.enc; rw [if_neg (by simp [hs]), if_neg h1, if_neg h2, if_neg h3]

set_option maxHeartbeats 1000000 in
set_option maxRecDepth 1000000 in
theorem refput_1 (n : Nat) (w : World) (hs : Utf.scalar n = true) (c1 : n < 128)  :
    Calls Tryd.prog 43 #[.int .i64 n] w fun e w' => e = .returned (.string (str (Utf.enc n))) ∧ Below w.heap.size w w' := by
  have hen := enc_1 hs c1
  generalize Utf.enc n = en at *
  have hb := bs_new w 5 [.int .u8 (n : Int)] en (by rw [hen]; simp [bval]; omega) (by rw [hen]; simp [maxLen]) _ 1 1 rfl (by rw [hen]; rfl) (by rw [hen]; rfl)
  have HV := Lib.hid (run_convert_bs (P := Tryd.prog) _ 41 9 5 Tryd.underlying41 Tryd.underlying5 Tryd.underlying9 hb)
  clear hb hen hs
  go_enter Tryd.func43, Tryd.ntmps43
  go_wp2
  rw [HV.out]
  go_wp2
  go_returns
  exact ⟨rfl, by go_grown⟩
set_option maxHeartbeats 1000000 in
set_option maxRecDepth 1000000 in
theorem refput_2 (n : Nat) (w : World) (hs : Utf.scalar n = true) (c1 : ¬ n < 128) (c2 : n < 2048)  :
    Calls Tryd.prog 43 #[.int .i64 n] w fun e w' => e = .returned (.string (str (Utf.enc n))) ∧ Below w.heap.size w w' := by
  have hen := enc_2 hs c1 c2
  generalize Utf.enc n = en at *
  have hb := bs_new w 5 [.int .u8 (192 + (n : Int) / 64), .int .u8 (128 + (n : Int) % 64)] en (by rw [hen]; simp [bval]; refine ⟨?_, ?_⟩ <;> omega) (by rw [hen]; simp [maxLen]) _ 2 2 rfl (by rw [hen]; rfl) (by rw [hen]; rfl)
  have HV := Lib.hid (run_convert_bs (P := Tryd.prog) _ 41 9 5 Tryd.underlying41 Tryd.underlying5 Tryd.underlying9 hb)
  clear hb hen hs
  go_enter Tryd.func43, Tryd.ntmps43
  go_wp2
  rw [HV.out]
  go_wp2
  go_returns
  exact ⟨rfl, by go_grown⟩
set_option maxHeartbeats 1000000 in
set_option maxRecDepth 1000000 in
theorem refput_3 (n : Nat) (w : World) (hs : Utf.scalar n = true) (c1 : ¬ n < 128) (c2 : ¬ n < 2048) (c3 : n < 65536) (h5 : n < 55296) :
    Calls Tryd.prog 43 #[.int .i64 n] w fun e w' => e = .returned (.string (str (Utf.enc n))) ∧ Below w.heap.size w w' := by
  have hen := enc_3 hs c1 c2 c3
  generalize Utf.enc n = en at *
  have hb := bs_new w 5 [.int .u8 (224 + (n : Int) / 4096), .int .u8 (128 + (n : Int) / 64 % 64), .int .u8 (128 + (n : Int) % 64)] en (by rw [hen]; simp [bval]; refine ⟨?_, ?_, ?_⟩ <;> omega) (by rw [hen]; simp [maxLen]) _ 3 3 rfl (by rw [hen]; rfl) (by rw [hen]; rfl)
  have HV := Lib.hid (run_convert_bs (P := Tryd.prog) _ 41 9 5 Tryd.underlying41 Tryd.underlying5 Tryd.underlying9 hb)
  clear hb hen hs
  go_enter Tryd.func43, Tryd.ntmps43
  go_wp2
  rw [HV.out]
  go_wp2
  go_returns
  exact ⟨rfl, by go_grown⟩
set_option maxHeartbeats 1000000 in
set_option maxRecDepth 1000000 in
theorem refput_3b (n : Nat) (w : World) (hs : Utf.scalar n = true) (c1 : ¬ n < 128) (c2 : ¬ n < 2048) (c3 : n < 65536) (h5 : 57343 < n) :
    Calls Tryd.prog 43 #[.int .i64 n] w fun e w' => e = .returned (.string (str (Utf.enc n))) ∧ Below w.heap.size w w' := by
  have hen := enc_3 hs c1 c2 c3
  generalize Utf.enc n = en at *
  have hb := bs_new w 5 [.int .u8 (224 + (n : Int) / 4096), .int .u8 (128 + (n : Int) / 64 % 64), .int .u8 (128 + (n : Int) % 64)] en (by rw [hen]; simp [bval]; refine ⟨?_, ?_, ?_⟩ <;> omega) (by rw [hen]; simp [maxLen]) _ 3 3 rfl (by rw [hen]; rfl) (by rw [hen]; rfl)
  have HV := Lib.hid (run_convert_bs (P := Tryd.prog) _ 41 9 5 Tryd.underlying41 Tryd.underlying5 Tryd.underlying9 hb)
  clear hb hen hs
  go_enter Tryd.func43, Tryd.ntmps43
  go_wp2
  rw [HV.out]
  go_wp2
  go_returns
  exact ⟨rfl, by go_grown⟩
set_option maxHeartbeats 1000000 in
set_option maxRecDepth 1000000 in
theorem refput_4 (n : Nat) (w : World) (hs : Utf.scalar n = true) (c1 : ¬ n < 128) (c2 : ¬ n < 2048) (c3 : ¬ n < 65536) (c4 : n < 1114112)  :
    Calls Tryd.prog 43 #[.int .i64 n] w fun e w' => e = .returned (.string (str (Utf.enc n))) ∧ Below w.heap.size w w' := by
  have hen := enc_4 hs c1 c2 c3
  generalize Utf.enc n = en at *
  have hb := bs_new w 5 [.int .u8 (240 + (n : Int) / 262144), .int .u8 (128 + (n : Int) / 4096 % 64), .int .u8 (128 + (n : Int) / 64 % 64), .int .u8 (128 + (n : Int) % 64)] en (by rw [hen]; simp [bval]; refine ⟨?_, ?_, ?_, ?_⟩ <;> omega) (by rw [hen]; simp [maxLen]) _ 4 4 rfl (by rw [hen]; rfl) (by rw [hen]; rfl)
  have HV := Lib.hid (run_convert_bs (P := Tryd.prog) _ 41 9 5 Tryd.underlying41 Tryd.underlying5 Tryd.underlying9 hb)
  clear hb hen hs
  go_enter Tryd.func43, Tryd.ntmps43
  go_wp2
  rw [HV.out]
  go_wp2
  go_returns
  exact ⟨rfl, by go_grown⟩
set_option maxHeartbeats 1000000 in
set_option maxRecDepth 1000000 in
theorem refput_any (c : Int) (w : World) : Calls Tryd.prog 43 #[.int .i64 c] w fun e w' => e = .returned (.string (str (encI c))) ∧ Below w.heap.size w w' := by
  by_cases hs : scalarI c = true
  · have hs2 := hs
    rw [scalarI_eq, decide_eq_true_eq] at hs
    obtain ⟨n, rfl⟩ : ∃ n : Nat, c = n := ⟨c.toNat, by omega⟩
    rw [encI_nat]
    rw [scalarI_nat] at hs2
    by_cases c1 : n < 128
    · exact refput_1 n w hs2 c1
    · by_cases c2 : n < 2048
      · exact refput_2 n w hs2 c1 c2
      · by_cases c3 : n < 65536
        · by_cases h5 : n < 55296
          · exact refput_3 n w hs2 c1 c2 c3 h5
          · exact refput_3b n w hs2 c1 c2 c3 (by omega)
        · exact refput_4 n w hs2 c1 c2 c3 (by omega)
  · rw [Bool.not_eq_true] at hs
    rw [encI_none hs]
    rw [scalarI_eq, decide_eq_false_iff_not] at hs
    go_enter Tryd.func43, Tryd.ntmps43
    obtain h | h | h : c < 0 ∨ 1114112 ≤ c ∨ (55296 ≤ c ∧ c ≤ 57343) := by omega
    · go_wp2
      go_returns
      exact ⟨rfl, Below.refl _ _⟩
    · go_wp2
      go_returns
      exact ⟨rfl, Below.refl _ _⟩
    · go_wp2
      go_returns
      exact ⟨rfl, Below.refl _ _⟩
end Go.Proofs.YtpoameaaoapiiaaDoor
