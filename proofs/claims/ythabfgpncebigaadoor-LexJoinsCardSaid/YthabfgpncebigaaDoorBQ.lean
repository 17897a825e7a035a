/- Quoted texts in plain Lean: what is read, by the document. No program in sight. How long a part can be. No program in sight. Quoted texts in plain Lean: what is printed. No program in sight. Quoted texts in plain Lean: what is printed is read again; cut short it is not; what is read is a text. No program in sight. tabulariumref07: hex, digit, short, unit. strings.Builder in a dump whose copyCheck stops short of its panic: copyCheck, WriteByte, WriteString (after the shelf's walks); String by the shelf. quote: must, byte, exactly. quote: unit. quote: escape, of two units. quote: escape. quote: plain. quote: Scan's deferred closure. quote: Scan. quote: Scan of anything, Parse. -/
import Derived.Test.YthabfgpncebigaaDoorBU
import Derived.Test.YthabfgpncebigaaDoorChecked
import Derived.Test.YthabfgpncebigaaDoorBA
import Derived.Handy
import Derived.Test.YthabfgpncebigaaDoorShelf
import Derived.WalkKit
import Derived.StillTailTactics
import Derived.Deep.QuietTactic
import Derived.BigQuiet
import Derived.Deep.LoopGhost
import Derived.Deep.RegionHeld3
import Derived.Recover
import Derived.Defers
import Derived.Tactics2

/- Quoted texts in plain Lean: what is read, by the document. No program in sight. -/
namespace Go.Proofs.YthabfgpncebigaaDoor.Qt

/-- A hexadecimal digit's value; 16: it is none. -/
def hexv (c : Nat) : Nat := if 48 ≤ c ∧ c ≤ 57 then c - 48 else if 97 ≤ c ∧ c ≤ 102 then c - 87 else if 65 ≤ c ∧ c ≤ 70 then c - 55 else 16
def hexI (c : Nat) : Int := if hexv c = 16 then -1 else (hexv c : Int)

/-- So many digits at the front: the number, and the error. -/
def unitF : Nat → Nat → List UInt8 → Nat × Nat
  | 0, n, _ => (n, 0)
  | _ + 1, _, [] => (0, 2)
  | k + 1, n, b :: r => if hexv b.toNat = 16 then (0, 3) else unitF k (n * 16 + hexv b.toNat) r

/-- A part: what it stands for, how many bytes it has, the error. -/
structure Pt where
  s : List UInt8
  n : Nat
  e : Nat
def err (e : Nat) : Pt := ⟨[], 0, e⟩

/-- What a sign behind a backslash stands for; 0: nothing. -/
def mean (c : Nat) : Nat := if c = 34 then 34 else if c = 92 then 92 else if c = 47 then 47 else if c = 98 then 8 else if c = 102 then 12 else if c = 110 then 10 else if c = 114 then 13 else if c = 116 then 9 else 0

/-- The second unit of two, its backslash and u ahead. -/
def low (n : Nat) : List UInt8 → Pt
  | [] => err 2
  | x :: r => if x.toNat ≠ 92 then err 3 else
    match r with
    | [] => err 2
    | y :: t => if y.toNat ≠ 117 then err 3 else
      if (unitF 4 0 t).2 ≠ 0 then err (unitF 4 0 t).2
      else if (unitF 4 0 t).1 < 56320 ∨ 57343 < (unitF 4 0 t).1 then err 3
      else ⟨Utf.enc (65536 + (n - 55296) * 1024 + (unitF 4 0 t).1 - 56320), 12, 0⟩

/-- The part behind a backslash and u: these bytes begin behind the u. -/
def coded (t : List UInt8) : Pt :=
  if (unitF 4 0 t).2 ≠ 0 then err (unitF 4 0 t).2
  else if 56320 ≤ (unitF 4 0 t).1 ∧ (unitF 4 0 t).1 ≤ 57343 then err 3
  else if (unitF 4 0 t).1 < 55296 ∨ 57343 < (unitF 4 0 t).1 then ⟨Utf.enc (unitF 4 0 t).1, 6, 0⟩
  else low (unitF 4 0 t).1 (t.drop 4)

/-- What stands behind a backslash. -/
def esc : List UInt8 → Pt
  | [] => err 2
  | c :: t => if mean c.toNat ≠ 0 then ⟨[UInt8.ofNat (mean c.toNat)], 2, 0⟩ else if c.toNat = 117 then coded t else err 3

/-- The part at the front, which isn't the end's. -/
def part : List UInt8 → Pt
  | [] => err 2
  | b :: r =>
    if b.toNat < 32 then err 3
    else if b.toNat ≠ 92 then
      if (Utf.next (b :: r)).2 = 0 then err 7 else ⟨(b :: r).take (Utf.next (b :: r)).2, (Utf.next (b :: r)).2, 0⟩
    else esc r

def quoteHead : List UInt8 → Bool
  | [] => false
  | b :: _ => decide (b.toNat = 34)

/-- From a place on, what was read ahead being given. -/
def scanF : Nat → List UInt8 → List UInt8 → Nat → Pt
  | 0, _, _, _ => err 2
  | k + 1, l, s, p => if quoteHead l = true then ⟨s, p + 1, 0⟩ else if (part l).e ≠ 0 then err (part l).e else scanF k (l.drop (part l).n) (s ++ (part l).s) (p + (part l).n)

/-- The quoted text that bytes begin with. -/
def scan (b : List UInt8) : Pt :=
  match b with
  | [] => err 2
  | c :: r => if c.toNat ≠ 34 then err 3 else scanF (r.length + 1) r [] 1

theorem hexv_le (c : Nat) : hexv c ≤ 16 := by unfold hexv; split; · omega
                                              split; · omega
                                              split <;> omega
theorem unitF_err : ∀ (k n : Nat) (l : List UInt8), (unitF k n l).2 = 0 ∨ ((unitF k n l).1 = 0 ∧ ((unitF k n l).2 = 2 ∨ (unitF k n l).2 = 3))
  | 0, n, l => .inl rfl
  | k + 1, n, [] => .inr ⟨rfl, .inl rfl⟩
  | k + 1, n, b :: r => by
    unfold unitF
    split
    · exact .inr ⟨rfl, .inr rfl⟩
    · exact unitF_err k _ r
theorem unitF_lt : ∀ (k n : Nat) (l : List UInt8), (unitF k n l).1 < (n + 1) * 16 ^ k
  | 0, n, l => by simp [unitF]
  | k + 1, n, [] => by show 0 < _; exact Nat.mul_pos (Nat.succ_pos _) (Nat.pow_pos (by decide))
  | k + 1, n, b :: r => by
    unfold unitF
    have hh := hexv_le b.toNat
    split
    · exact Nat.mul_pos (by omega) (Nat.pow_pos (by omega))
    · rename_i hne
      refine Nat.lt_of_lt_of_le (unitF_lt k _ r) ?_
      rw [Nat.pow_succ, Nat.mul_comm (16 ^ k), ← Nat.mul_assoc]
      exact Nat.mul_le_mul_right _ (by omega)
theorem unit_lt (l : List UInt8) : (unitF 4 0 l).1 < 65536 := by simpa using unitF_lt 4 0 l
theorem unitF_len : ∀ (k n : Nat) (l : List UInt8), (unitF k n l).2 = 0 → k ≤ l.length
  | 0, _, _, _ => Nat.zero_le _
  | k + 1, _, [], h => by simp [unitF] at h
  | k + 1, n, b :: r, h => by
    unfold unitF at h
    split at h
    · simp at h
    · have := unitF_len k _ r h; simp; omega
theorem low_ok {n : Nat} {l : List UInt8} (h : (low n l).e = 0) : (low n l).n = 12 ∧ 6 ≤ l.length := by
  unfold low at h ⊢
  cases l with
  | nil => simp [err] at h
  | cons x r =>
    simp only at h ⊢
    split at h
    · simp [err] at h
    · rename_i hx
      rw [if_neg hx]
      cases r with
      | nil => simp [err] at h
      | cons y t =>
        simp only at h ⊢
        split at h
        · simp [err] at h
        · rename_i hy
          rw [if_neg hy]
          split at h
          · rename_i hu; exact absurd h hu
          · rename_i hu
            rw [if_neg hu]
            have hlen := unitF_len 4 0 t (by simpa using hu)
            split at h
            · simp [err] at h
            · rename_i hv
              rw [if_neg hv]
              exact ⟨rfl, by simp; omega⟩
theorem coded_ok {t : List UInt8} (h : (coded t).e = 0) : 6 ≤ (coded t).n ∧ (coded t).n ≤ t.length + 2 := by
  unfold coded at h ⊢
  split at h
  · rename_i hu; exact absurd h hu
  · rename_i hu
    rw [if_neg hu]
    have hlen := unitF_len 4 0 t (by simpa using hu)
    split at h
    · simp [err] at h
    · rename_i hv
      rw [if_neg hv]
      split at h
      · rename_i hw
        rw [if_pos hw]
        simp only
        omega
      · rename_i hw
        rw [if_neg hw]
        obtain ⟨h1, h2⟩ := low_ok h
        rw [h1]
        simp at h2
        omega
theorem esc_ok {l : List UInt8} (h : (esc l).e = 0) : 2 ≤ (esc l).n ∧ (esc l).n ≤ l.length + 1 := by
  unfold esc at h ⊢
  cases l with
  | nil => simp [err] at h
  | cons c t =>
    simp only at h ⊢
    split
    · simp
    · rename_i hm
      rw [if_neg hm] at h
      split
      · rename_i hc
        rw [if_pos hc] at h
        have := coded_ok h
        simp; omega
      · rename_i hc
        rw [if_neg hc] at h
        simp [err] at h
theorem part_ok {l : List UInt8} (h : (part l).e = 0) : 1 ≤ (part l).n ∧ (part l).n ≤ l.length := by
  unfold part at h ⊢
  cases l with
  | nil => simp [err] at h
  | cons b r =>
    simp only at h ⊢
    split at h
    · simp [err] at h
    · rename_i h1
      rw [if_neg h1]
      split at h
      · rename_i h2
        rw [if_pos h2]
        split at h
        · simp [err] at h
        · rename_i h3
          rw [if_neg h3]
          have := Utf.next_le (l := b :: r)
          simp only at this ⊢
          omega
      · rename_i h2
        rw [if_neg h2]
        have := esc_ok h
        simp; omega
theorem scanF_fuel : ∀ (k m : Nat) (l s : List UInt8) (p : Nat), l.length < k → l.length < m → scanF k l s p = scanF m l s p
  | 0, _, _, _, _, h, _ => by omega
  | _, 0, _, _, _, _, h => by omega
  | k + 1, m + 1, l, s, p, hk, hm => by
    unfold scanF
    split
    · rfl
    · split
      · rfl
      · rename_i he
        have := part_ok (l := l) (by simpa using he)
        exact scanF_fuel k m _ _ _ (by simp; omega) (by simp; omega)
/-- From a place on, with as much fuel as is wanted. -/
def go (l s : List UInt8) (p : Nat) : Pt := scanF (l.length + 1) l s p
theorem go_quote {l : List UInt8} (s : List UInt8) (p : Nat) (h : quoteHead l = true) : go l s p = ⟨s, p + 1, 0⟩ := by unfold go scanF; rw [if_pos h]
theorem go_err {l : List UInt8} (s : List UInt8) (p : Nat) (h : quoteHead l = false) (he : (part l).e ≠ 0) : go l s p = err (part l).e := by
  unfold go scanF; rw [if_neg (by rw [h]; simp), if_pos he]
theorem go_part {l : List UInt8} (s : List UInt8) (p : Nat) (h : quoteHead l = false) (he : (part l).e = 0) : go l s p = go (l.drop (part l).n) (s ++ (part l).s) (p + (part l).n) := by
  have := part_ok he
  unfold go
  rw [scanF, if_neg (by rw [h]; simp), if_neg (by simpa using he)]
  exact scanF_fuel _ _ _ _ _ (by simp; omega) (by simp)
theorem scan_cons (c : UInt8) (r : List UInt8) : scan (c :: r) = if c.toNat ≠ 34 then err 3 else go r [] 1 := rfl

/-- The second unit behind its backslash and u. -/
def low2 (n : Nat) (t : List UInt8) : Pt :=
  if (unitF 4 0 t).2 ≠ 0 then err (unitF 4 0 t).2
  else if (unitF 4 0 t).1 < 56320 ∨ 57343 < (unitF 4 0 t).1 then err 3
  else ⟨Utf.enc (65536 + (n - 55296) * 1024 + (unitF 4 0 t).1 - 56320), 12, 0⟩
def bt (l : List UInt8) (i : Nat) : Nat := (l.getD i 0).toNat
theorem bt_eq {l : List UInt8} {i : Nat} (h : i < l.length) : l[i].toNat = bt l i := by unfold bt; rw [List.getD_eq_getElem?_getD, List.getElem?_eq_getElem h]; rfl
theorem low_at (n : Nat) (l : List UInt8) (q : Nat) : low n (l.drop q) = if l.length ≤ q then err 2 else if bt l q ≠ 92 then err 3 else if l.length ≤ q + 1 then err 2 else if bt l (q + 1) ≠ 117 then err 3 else low2 n (l.drop (q + 2)) := by
  by_cases h : l.length ≤ q
  · rw [if_pos h, List.drop_eq_nil_of_le h]; rfl
  · have h' : q < l.length := by omega
    rw [if_neg h, List.drop_eq_getElem_cons h', low.eq_def]
    simp only [bt_eq h']
    split
    · rfl
    · by_cases h2 : l.length ≤ q + 1
      · rw [if_pos h2, List.drop_eq_nil_of_le h2]
      · have h2' : q + 1 < l.length := by omega
        rw [if_neg h2, List.drop_eq_getElem_cons h2']
        simp only [bt_eq h2']
        rfl
theorem esc_at (l : List UInt8) (q : Nat) : esc (l.drop q) = if l.length ≤ q then err 2 else if mean (bt l q) ≠ 0 then ⟨[UInt8.ofNat (mean (bt l q))], 2, 0⟩ else if bt l q = 117 then coded (l.drop (q + 1)) else err 3 := by
  by_cases h : l.length ≤ q
  · rw [if_pos h, List.drop_eq_nil_of_le h]; rfl
  · have h' : q < l.length := by omega
    rw [if_neg h, List.drop_eq_getElem_cons h', esc, bt_eq h']
theorem part_at (l : List UInt8) (q : Nat) : part (l.drop q) = if l.length ≤ q then err 2 else if bt l q < 32 then err 3 else if bt l q ≠ 92 then (if (Utf.next (l.drop q)).2 = 0 then err 7 else ⟨(l.drop q).take (Utf.next (l.drop q)).2, (Utf.next (l.drop q)).2, 0⟩) else esc (l.drop (q + 1)) := by
  by_cases h : l.length ≤ q
  · rw [if_pos h, List.drop_eq_nil_of_le h]; rfl
  · have h' : q < l.length := by omega
    rw [if_neg h, List.drop_eq_getElem_cons h', part, bt_eq h']
theorem quote_at (l : List UInt8) (q : Nat) : quoteHead (l.drop q) = (decide (q < l.length) && decide (bt l q = 34)) := by
  by_cases h : q < l.length
  · rw [List.drop_eq_getElem_cons h, quoteHead, bt_eq h]; simp [h]
  · rw [List.drop_eq_nil_of_le (by omega)]; simp [quoteHead, h]
end Go.Proofs.YthabfgpncebigaaDoor.Qt

/- How long a part can be. No program in sight. -/
namespace Go.Proofs.YthabfgpncebigaaDoor

set_option maxRecDepth 1000000 in
theorem Qt.part_len {l : List UInt8} (h : (Qt.part l).e = 0) : (Qt.part l).s.length ≤ 4 := by
  unfold Qt.part at h ⊢
  cases l with
  | nil => simp [Qt.err]
  | cons b r =>
    simp only at h ⊢
    split
    · simp [Qt.err]
    · split
      · split
        · simp [Qt.err]
        · rename_i hn
          obtain ⟨c, n, hcn⟩ : ∃ c n, Utf.next (b :: r) = (c, n) := ⟨_, _, rfl⟩
          obtain ⟨_, _, h3, _⟩ := Utf.next_some hcn (by rw [hcn] at hn; exact hn)
          have := Utf.enc_length_le c
          rw [hcn]
          simp only [List.length_take]
          omega
      · unfold Qt.esc
        split
        · simp [Qt.err]
        · split
          · simp
          · split
            · unfold Qt.coded
              split
              · simp [Qt.err]
              · split
                · simp [Qt.err]
                · split
                  · dsimp only; exact Utf.enc_length_le _
                  · unfold Qt.low
                    split
                    · simp [Qt.err]
                    · split
                      · simp [Qt.err]
                      · split
                        · simp [Qt.err]
                        · split
                          · simp [Qt.err]
                          · split
                            · simp [Qt.err]
                            · split
                              · simp [Qt.err]
                              · dsimp only; exact Utf.enc_length_le _
            · simp [Qt.err]
end Go.Proofs.YthabfgpncebigaaDoor

/- Quoted texts in plain Lean: what is printed. No program in sight. -/
namespace Go.Proofs.YthabfgpncebigaaDoor.Qt

/-- The sign behind a backslash for a byte; 0: there is none. -/
def shortc (c : Nat) : Nat := if c = 34 then 34 else if c = 92 then 92 else if c = 8 then 98 else if c = 12 then 102 else if c = 10 then 110 else if c = 13 then 114 else if c = 9 then 116 else 0
/-- A small hexadecimal digit. -/
def hexd (n : Nat) : Nat := if n < 10 then 48 + n else 87 + n
/-- What is printed for a byte. -/
def pp (b : UInt8) : List UInt8 :=
  if shortc b.toNat ≠ 0 then [92, UInt8.ofNat (shortc b.toNat)]
  else if b.toNat < 32 then [92, 117, 48, 48, UInt8.ofNat (hexd (b.toNat / 16)), UInt8.ofNat (hexd (b.toNat % 16))]
  else [b]
/-- All bytes' prints. -/
def pps (l : List UInt8) : List UInt8 := l.flatMap pp
def print (l : List UInt8) : List UInt8 := 34 :: (pps l ++ [34])

theorem pp_len (b : UInt8) : 1 ≤ (pp b).length ∧ (pp b).length ≤ 6 := by unfold pp; split; · simp
                                                                         split <;> simp
theorem pps_append (a b : List UInt8) : pps (a ++ b) = pps a ++ pps b := by simp [pps]
theorem pps_len (l : List UInt8) : l.length ≤ (pps l).length ∧ (pps l).length ≤ 6 * l.length := by
  induction l with
  | nil => simp [pps]
  | cons b r ih =>
    have := pp_len b
    simp only [pps, List.flatMap_cons, List.length_append, List.length_cons] at ih ⊢
    omega
theorem take_next (l : List UInt8) (i : Nat) (h : i < l.length) : l.take (i + 1) = l.take i ++ [l[i]] := by
  rw [List.take_succ_eq_append_getElem h]
theorem pps_next (l : List UInt8) (i : Nat) (h : i < l.length) : pps (l.take (i + 1)) = pps (l.take i) ++ pp (UInt8.ofNat (bt l i)) := by
  rw [take_next l i h, pps_append, ← bt_eq h]
  simp [pps]
theorem pps_take_len (l : List UInt8) (i : Nat) : (pps (l.take i)).length ≤ 6 * i := by
  have := (pps_len (l.take i)).2
  rw [List.length_take] at this
  omega
theorem shortc_cases {c : Nat} (h : shortc c ≠ 0) : c = 34 ∨ c = 92 ∨ c = 8 ∨ c = 12 ∨ c = 10 ∨ c = 13 ∨ c = 9 := by
  unfold shortc at h
  repeat (split at h; · omega)
  omega
end Go.Proofs.YthabfgpncebigaaDoor.Qt

/- Quoted texts in plain Lean: what is printed is read again; cut short it is not; what is read is a text. No program in sight. -/
namespace Go.Proofs.YthabfgpncebigaaDoor.Qt

/-- The text of these scalars. -/
def T (cs : List Nat) : List UInt8 := cs.flatMap Utf.enc
def Sc (cs : List Nat) : Prop := ∀ c ∈ cs, Utf.scalar c = true
theorem T_cons (c : Nat) (cs : List Nat) : T (c :: cs) = Utf.enc c ++ T cs := rfl
theorem enc_ne {c : Nat} (h : Utf.scalar c = true) : (Utf.enc c).length ≠ 0 := fun e => by
  rw [List.length_eq_zero_iff, Utf.enc_nil, h] at e
  cases e
theorem scan_T : ∀ (cs : List Nat) (p : Nat), Sc cs → (Utf.scan (T cs) p).2 = p + (T cs).length
  | [], p, _ => by rw [show T [] = [] from rfl, Utf.scan_nil]; rfl
  | c :: cs, p, h => by
    have hs := h c (by simp)
    rw [T_cons, Utf.scan_ok (by rw [Utf.next_enc hs]; exact enc_ne hs), Utf.next_enc hs]
    simp only [List.drop_left']
    rw [scan_T cs _ (fun d hd => h d (by simp [hd])), List.length_append]
    omega
theorem valid_T {cs : List Nat} (h : Sc cs) : Utf.valid (T cs) = true := Utf.valid_iff.2 (scan_T cs 0 h)
theorem of_valid {l : List UInt8} (h : Utf.valid l = true) : ∃ cs, Sc cs ∧ l = T cs := by
  refine Utf.valid_ind (motive := fun l _ => ∃ cs, Sc cs ∧ l = T cs) ?_ ?_ _ l 0 (Nat.lt_succ_self _) (Utf.valid_iff.1 h)
  · exact fun _ => ⟨[], fun c hc => by simp at hc, rfl⟩
  · rintro c r p hs _ _ ⟨cs, hcs, rfl⟩
    refine ⟨c :: cs, fun d hd => ?_, rfl⟩
    rcases List.mem_cons.1 hd with rfl | hd
    · exact hs
    · exact hcs d hd
theorem valid_enc (c : Nat) : Utf.valid (Utf.enc c) = true := by
  cases h : Utf.scalar c with
  | false => rw [Utf.enc_nil.2 h]; rfl
  | true =>
    have := valid_T (cs := [c]) (fun d hd => by simp at hd; rw [hd]; exact h)
    rwa [T_cons, show T [] = [] from rfl, List.append_nil] at this
theorem valid_append {a b : List UInt8} (ha : Utf.valid a = true) (hb : Utf.valid b = true) : Utf.valid (a ++ b) = true := by
  obtain ⟨xs, hx, rfl⟩ := of_valid ha
  obtain ⟨ys, hy, rfl⟩ := of_valid hb
  rw [show T xs ++ T ys = T (xs ++ ys) by simp [T]]
  refine valid_T fun c hc => ?_
  rcases List.mem_append.1 hc with h | h
  · exact hx c h
  · exact hy c h

/-- A prefix of a scalar is none. -/
theorem next_trunc {l : List UInt8} {c n k : Nat} (h : Utf.next l = (c, n)) (hk : k < n) : (Utf.next (l.take k)).2 = 0 := by
  refine Decidable.byContradiction fun hm => ?_
  obtain ⟨d, m, hd⟩ : ∃ d m, Utf.next (l.take k) = (d, m) := ⟨_, _, rfl⟩
  rw [hd] at hm
  obtain ⟨h1, h2, h3, h4⟩ := Utf.next_some hd hm
  rw [List.length_take] at h4
  have h5 : l = Utf.enc d ++ l.drop m := by
    rw [← h2, List.take_take, Nat.min_eq_left (by omega), List.take_append_drop]
  have h6 := Utf.next_enc h1 (l.drop m)
  rw [← h5, h, ← h3] at h6
  injection h6 with _ h7
  omega

theorem hexv_hexd : ∀ x : Fin 16, hexv (hexd x.val) = x.val ∧ hexd x.val < 256 := by decide
theorem hexv_dig {x : Nat} (h : x < 16) : hexv (UInt8.ofNat (hexd x)).toNat = x := by
  have := hexv_hexd ⟨x, h⟩
  rw [Utf.toNat_ofNat this.2]; exact this.1
theorem enc_small {c : Nat} (h : c < 128) : Utf.enc c = [UInt8.ofNat c] := by
  unfold Utf.enc
  rw [if_neg (by simp [Utf.scalar]; omega), if_pos h]
theorem enc_big {c : Nat} (hs : Utf.scalar c = true) (h : 128 ≤ c) : ∀ b ∈ Utf.enc c, 128 ≤ b.toNat := by
  have hc := Utf.scalar_iff.1 hs
  unfold Utf.enc
  rw [if_neg (by simp [hs]), if_neg (by omega)]
  split
  · intro b hb
    rcases List.mem_cons.1 hb with rfl | hb
    · rw [Utf.toNat_ofNat (by omega)]; omega
    · simp only [List.mem_singleton] at hb; subst hb
      rw [Utf.toNat_ofNat (by omega)]; omega
  · split
    · intro b hb
      rcases List.mem_cons.1 hb with rfl | hb
      · rw [Utf.toNat_ofNat (by omega)]; omega
      · rcases List.mem_cons.1 hb with rfl | hb
        · rw [Utf.toNat_ofNat (by omega)]; omega
        · simp only [List.mem_singleton] at hb; subst hb
          rw [Utf.toNat_ofNat (by omega)]; omega
    · intro b hb
      rcases List.mem_cons.1 hb with rfl | hb
      · rw [Utf.toNat_ofNat (by omega)]; omega
      · rcases List.mem_cons.1 hb with rfl | hb
        · rw [Utf.toNat_ofNat (by omega)]; omega
        · rcases List.mem_cons.1 hb with rfl | hb
          · rw [Utf.toNat_ofNat (by omega)]; omega
          · simp only [List.mem_singleton] at hb; subst hb
            rw [Utf.toNat_ofNat (by omega)]; omega
theorem shortc_big {c : Nat} (h : 128 ≤ c) : shortc c = 0 := by unfold shortc; repeat (rw [if_neg (by omega)])
theorem pps_big : ∀ (l : List UInt8), (∀ b ∈ l, 128 ≤ b.toNat) → pps l = l
  | [], _ => rfl
  | b :: r, h => by
    have hb := h b (by simp)
    have e : pp b = [b] := by unfold pp; rw [if_neg (by rw [shortc_big hb]; simp), if_neg (by omega)]
    rw [show pps (b :: r) = pp b ++ pps r from rfl, e, pps_big r (fun x hx => h x (by simp [hx]))]
    rfl

/-- What a byte's print looks like. -/
theorem pp_kinds {c : Nat} (h : c < 128) : (∃ d, mean d = c ∧ d < 256 ∧ mean d ≠ 0 ∧ pp (UInt8.ofNat c) = [92, UInt8.ofNat d]) ∨
    (c < 32 ∧ pp (UInt8.ofNat c) = [92, 117, 48, 48, UInt8.ofNat (hexd (c / 16)), UInt8.ofNat (hexd (c % 16))]) ∨ (32 ≤ c ∧ c ≠ 34 ∧ c ≠ 92 ∧ pp (UInt8.ofNat c) = [UInt8.ofNat c]) := by
  have hn : (UInt8.ofNat c).toNat = c := Utf.toNat_ofNat (by omega)
  by_cases h1 : shortc c ≠ 0
  · have e : pp (UInt8.ofNat c) = [92, UInt8.ofNat (shortc c)] := by unfold pp; rw [hn, if_pos h1]
    refine .inl ⟨shortc c, ?_⟩
    rcases shortc_cases h1 with h | h | h | h | h | h | h <;> subst h <;> exact ⟨by decide, by decide, by decide, e⟩
  · by_cases h2 : c < 32
    · exact .inr (.inl ⟨h2, by unfold pp; rw [hn, if_neg h1, if_pos h2]⟩)
    · refine .inr (.inr ⟨by omega, ?_, ?_, by unfold pp; rw [hn, if_neg h1, if_neg h2]⟩)
      · rintro rfl; exact h1 (by decide)
      · rintro rfl; exact h1 (by decide)
theorem quote_head (b : UInt8) (r : List UInt8) (h : b.toNat ≠ 34) : quoteHead (b :: r) = false := decide_eq_false h
theorem n92 : (92 : UInt8).toNat = 92 := rfl
theorem part_esc (r : List UInt8) : part (92 :: r) = esc r := by
  rw [part, if_neg (by rw [n92]; omega), if_neg (by rw [n92]; simp)]
theorem esc_u (r : List UInt8) : esc (117 :: r) = coded r := rfl
theorem unit_zero (k n : Nat) (r : List UInt8) : unitF (k + 1) n (48 :: r) = unitF k (n * 16 + 0) r := rfl
theorem unit_dig (k n x : Nat) (hx : x < 16) (r : List UInt8) : unitF (k + 1) n (UInt8.ofNat (hexd x) :: r) = unitF k (n * 16 + x) r := by
  rw [unitF, hexv_dig hx, if_neg (by omega)]

/-- One scalar's print is read as it. -/
theorem unit_part {c : Nat} (hs : Utf.scalar c = true) (rest : List UInt8) : quoteHead (pps (Utf.enc c) ++ rest) = false ∧ part (pps (Utf.enc c) ++ rest) = ⟨Utf.enc c, (pps (Utf.enc c)).length, 0⟩ := by
  by_cases h : c < 128
  · rw [enc_small h]
    have e : pps [UInt8.ofNat c] = pp (UInt8.ofNat c) := by simp [pps]
    rw [e]
    rcases pp_kinds h with ⟨d, h1, h2, h3, e⟩ | ⟨h1, e⟩ | ⟨h1, h2, h3, e⟩ <;> rw [e]
    · refine ⟨quote_head _ _ (by rw [n92]; omega), ?_⟩
      rw [List.cons_append, part_esc, List.cons_append, esc, Utf.toNat_ofNat h2, if_pos h3, h1]; rfl
    · refine ⟨quote_head _ _ (by rw [n92]; omega), ?_⟩
      simp only [List.cons_append, List.nil_append]
      have hu : unitF 4 0 (48 :: 48 :: UInt8.ofNat (hexd (c / 16)) :: UInt8.ofNat (hexd (c % 16)) :: rest) = (c, 0) := by
        rw [unit_zero, unit_zero, unit_dig _ _ _ (by omega), unit_dig _ _ _ (by omega), unitF]
        congr 1
        omega
      rw [part_esc, esc_u, coded, hu]
      rw [if_neg (by simp), if_neg (by omega), if_pos (by omega), enc_small h]
      rfl
    · have hn : (UInt8.ofNat c).toNat = c := Utf.toNat_ofNat (by omega)
      have hx : Utf.next (UInt8.ofNat c :: rest) = (c, 1) := by simp only [Utf.next, hn, if_pos h]
      refine ⟨quote_head _ _ (by rw [hn]; exact h2), ?_⟩
      rw [List.cons_append, List.nil_append, part, hn, if_neg (by omega), if_pos h3, hx, if_neg (by simp)]
      rfl
  · have hb := enc_big hs (by omega)
    rw [pps_big _ hb]
    have hne := enc_ne hs
    obtain ⟨b, r, e⟩ : ∃ b r, Utf.enc c = b :: r := by
      cases he : Utf.enc c with
      | nil => rw [he] at hne; exact absurd rfl hne
      | cons b r => exact ⟨b, r, rfl⟩
    have hb0 := hb b (by rw [e]; simp)
    have hx := Utf.next_enc hs rest
    refine ⟨by rw [e]; exact quote_head _ _ (by omega), ?_⟩
    have e2 : part (Utf.enc c ++ rest) = if (Utf.next (Utf.enc c ++ rest)).2 = 0 then err 7 else ⟨(Utf.enc c ++ rest).take (Utf.next (Utf.enc c ++ rest)).2, (Utf.next (Utf.enc c ++ rest)).2, 0⟩ := by
      rw [e, List.cons_append, part, if_neg (by omega), if_pos (by omega)]
    rw [e2, hx, if_neg hne]
    simp only [List.take_left']
/-- .. cut short it is none. -/
theorem trunc_part {c k : Nat} (hs : Utf.scalar c = true) (hk : k < (pps (Utf.enc c)).length) : quoteHead ((pps (Utf.enc c)).take k) = false ∧ ((part ((pps (Utf.enc c)).take k)).e = 2 ∨ (part ((pps (Utf.enc c)).take k)).e = 7) := by
  by_cases h : c < 128
  · rw [enc_small h] at hk ⊢
    have e : pps [UInt8.ofNat c] = pp (UInt8.ofNat c) := by simp [pps]
    rw [e] at hk ⊢
    rcases pp_kinds h with ⟨d, h1, h2, h3, e⟩ | ⟨h1, e⟩ | ⟨h1, h2, h3, e⟩ <;> rw [e] at hk ⊢
    · match k, hk with
      | 0, _ => exact ⟨rfl, .inl rfl⟩
      | 1, _ => exact ⟨rfl, .inl rfl⟩
      | k + 2, hk => simp at hk; omega
    · match k, hk with
      | 0, _ => exact ⟨rfl, .inl rfl⟩
      | 1, _ => exact ⟨rfl, .inl rfl⟩
      | 2, _ => exact ⟨rfl, .inl rfl⟩
      | 3, _ => exact ⟨rfl, .inl rfl⟩
      | 4, _ => exact ⟨rfl, .inl rfl⟩
      | 5, _ =>
        refine ⟨rfl, .inl ?_⟩
        have hu : unitF 4 0 [48, 48, UInt8.ofNat (hexd (c / 16))] = (0, 2) := by
          rw [unit_zero, unit_zero, unit_dig _ _ _ (by omega), unitF]
        show (part (92 :: 117 :: [48, 48, UInt8.ofNat (hexd (c / 16))])).e = 2
        rw [part_esc, esc_u, coded, hu]
        rfl
      | k + 6, hk => simp at hk; omega
    · match k, hk with
      | 0, _ => exact ⟨rfl, .inl rfl⟩
      | k + 1, hk => simp at hk
  · have hb := enc_big hs (by omega)
    rw [pps_big _ hb] at hk ⊢
    have hx := Utf.next_enc hs []
    rw [List.append_nil] at hx
    have ht := next_trunc hx hk
    cases k with
    | zero => exact ⟨rfl, .inl rfl⟩
    | succ k =>
      obtain ⟨b, r, e⟩ : ∃ b r, Utf.enc c = b :: r := by
        cases he : Utf.enc c with
        | nil => rw [he] at hk; simp at hk
        | cons b r => exact ⟨b, r, rfl⟩
      have hb0 := hb b (by rw [e]; simp)
      rw [e, List.take_succ_cons] at ht ⊢
      refine ⟨quote_head _ _ (by omega), .inr ?_⟩
      rw [part, if_neg (by omega), if_pos (by omega), if_pos ht]
      rfl

/-- (L1) A print is read. -/
theorem go_print (more : List UInt8) : ∀ (cs : List Nat) (s : List UInt8) (p : Nat), Sc cs → go (pps (T cs) ++ 34 :: more) s p = ⟨s ++ T cs, p + (pps (T cs)).length + 1, 0⟩
  | [], s, p, _ => by rw [show T [] = [] from rfl, show pps [] = [] from rfl, List.nil_append, go_quote _ _ rfl]; simp
  | c :: cs, s, p, h => by
    have hs := h c (by simp)
    rw [T_cons, pps_append, List.append_assoc]
    obtain ⟨h1, h2⟩ := unit_part hs (pps (T cs) ++ 34 :: more)
    rw [go_part s p h1 (by rw [h2]), h2]
    simp only [List.drop_left']
    rw [go_print more cs _ _ (fun d hd => h d (by simp [hd]))]
    simp only [List.append_assoc, List.length_append, Pt.mk.injEq, true_and, and_true]
    omega
theorem scan_print {l : List UInt8} (more : List UInt8) (h : Utf.valid l = true) : scan (print l ++ more) = ⟨l, (print l).length, 0⟩ := by
  obtain ⟨cs, hcs, rfl⟩ := of_valid h
  unfold print
  rw [List.cons_append, scan_cons, if_neg (by decide), List.append_assoc, List.singleton_append, go_print more cs _ _ hcs]
  simp only [List.nil_append, List.length_cons, List.length_append, List.length_nil, Pt.mk.injEq, true_and, and_true]
  omega
/-- (L2) Cut short, it lacks something. -/
theorem go_cut : ∀ (cs : List Nat) (s : List UInt8) (p k : Nat), Sc cs → k < (pps (T cs) ++ [34]).length → (go ((pps (T cs) ++ [34]).take k) s p).e = 2 ∨ (go ((pps (T cs) ++ [34]).take k) s p).e = 7
  | [], s, p, k, _, hk => by
    have : k = 0 := by simpa [show T [] = [] from rfl, show pps [] = [] from rfl] using hk
    subst this
    exact .inl rfl
  | c :: cs, s, p, k, h, hk => by
    have hs := h c (by simp)
    rw [T_cons, pps_append, List.append_assoc] at hk ⊢
    by_cases hlt : k < (pps (Utf.enc c)).length
    · rw [List.take_append_of_le_length (by omega)]
      obtain ⟨h1, h2⟩ := trunc_part hs hlt
      rw [go_err s p h1 (by omega)]
      exact h2
    · rw [List.take_append, List.take_of_length_le (by omega)]
      obtain ⟨h1, h2⟩ := unit_part hs ((pps (T cs) ++ [34]).take (k - (pps (Utf.enc c)).length))
      rw [go_part s p h1 (by rw [h2]), h2]
      simp only [List.drop_left']
      refine go_cut cs _ _ _ (fun d hd => h d (by simp [hd])) ?_
      rw [List.length_append] at hk
      omega
theorem scan_cut {l : List UInt8} {k : Nat} (h : Utf.valid l = true) (hk : k < (print l).length) : (scan ((print l).take k)).e = 2 ∨ (scan ((print l).take k)).e = 7 := by
  obtain ⟨cs, hcs, rfl⟩ := of_valid h
  unfold print at hk ⊢
  cases k with
  | zero => exact .inl rfl
  | succ k =>
    rw [List.take_succ_cons, scan_cons, if_neg (by decide)]
    exact go_cut cs _ _ k hcs (by simpa using hk)

/-- (L3) What is read is a text. -/
theorem part_valid {l : List UInt8} (he : (part l).e = 0) : Utf.valid (part l).s = true := by
  unfold part at he ⊢
  cases l with
  | nil => rfl
  | cons b r =>
    simp only at he ⊢
    split
    · rfl
    · split
      · split
        · rfl
        · rename_i hn
          obtain ⟨c, n, hcn⟩ : ∃ c n, Utf.next (b :: r) = (c, n) := ⟨_, _, rfl⟩
          rw [hcn] at hn ⊢
          obtain ⟨_, h2, _, _⟩ := Utf.next_some hcn hn
          simp only at h2 ⊢
          rw [h2]; exact valid_enc c
      · unfold esc
        split
        · rfl
        · rename_i c t
          split
          · have hm : mean c.toNat < 128 := by unfold mean; repeat (split; · omega)
                                               omega
            rw [← enc_small hm]; exact valid_enc _
          · split
            · unfold coded
              split
              · rfl
              · split
                · rfl
                · split
                  · dsimp only; exact valid_enc _
                  · unfold low
                    split
                    · rfl
                    · split
                      · rfl
                      · split
                        · rfl
                        · split
                          · rfl
                          · split
                            · rfl
                            · split
                              · rfl
                              · dsimp only; exact valid_enc _
            · rfl
theorem scanF_valid : ∀ (k : Nat) (l s : List UInt8) (p : Nat), Utf.valid s = true → Utf.valid (scanF k l s p).s = true ∧ ((scanF k l s p).e ≠ 0 → (scanF k l s p).s = []) ∧ ((scanF k l s p).e = 0 → (scanF k l s p).n ≤ p + l.length)
  | 0, l, s, p, h => ⟨rfl, fun _ => rfl, fun h => by simp [scanF, err] at h⟩
  | k + 1, l, s, p, h => by
    unfold scanF
    split
    · rename_i hq
      refine ⟨h, fun hn => absurd rfl hn, fun _ => ?_⟩
      cases l with
      | nil => simp [quoteHead] at hq
      | cons b r => simp
    · split
      · rename_i he
        exact ⟨rfl, fun _ => rfl, fun h => absurd h he⟩
      · rename_i he
        have he' : (part l).e = 0 := by simpa using he
        have h1 := part_ok he'
        obtain ⟨a, b, c⟩ := scanF_valid k (l.drop (part l).n) (s ++ (part l).s) (p + (part l).n) (valid_append h (part_valid he'))
        refine ⟨a, b, fun hz => ?_⟩
        have := c hz
        rw [List.length_drop] at this
        omega
theorem scan_valid (l : List UInt8) : Utf.valid (scan l).s = true ∧ ((scan l).e ≠ 0 → (scan l).s = []) ∧ ((scan l).e = 0 → (scan l).n ≤ l.length) := by
  unfold scan
  cases l with
  | nil => exact ⟨rfl, fun _ => rfl, fun h => by simp [err] at h⟩
  | cons c r =>
    simp only
    split
    · exact ⟨rfl, fun _ => rfl, fun h => by simp [err] at h⟩
    · obtain ⟨a, b, c⟩ := scanF_valid (r.length + 1) r [] 1 rfl
      refine ⟨a, b, fun hz => ?_⟩
      have := c hz
      simp; omega
theorem print_inj {a b : List UInt8} (ha : Utf.valid a = true) (hb : Utf.valid b = true) (h : print a = print b) : a = b := by
  have h1 := scan_print [] ha
  have h2 := scan_print [] hb
  rw [h] at h1
  rw [h1] at h2
  injection h2
theorem print_len (l : List UInt8) : l.length + 2 ≤ (print l).length ∧ (print l).length ≤ 6 * l.length + 2 := by
  have := pps_len l
  unfold print
  simp only [List.length_cons, List.length_append, List.length_nil]
  omega
theorem scanF_len : ∀ (k : Nat) (l s : List UInt8) (p : Nat), (scanF k l s p).s.length ≤ s.length + 4 * l.length
  | 0, l, s, p => by simp [scanF, err]
  | k + 1, l, s, p => by
    unfold scanF
    split
    · simp
    · split
      · simp [err]
      · rename_i he
        have he' : (part l).e = 0 := by simpa using he
        have h1 := part_ok he'
        have h2 := part_len he'
        have h3 := scanF_len k (l.drop (part l).n) (s ++ (part l).s) (p + (part l).n)
        rw [List.length_append, List.length_drop] at h3
        omega
theorem scan_len (l : List UInt8) : (scan l).s.length ≤ 4 * l.length := by
  unfold scan
  cases l with
  | nil => simp [err]
  | cons c r =>
    simp only
    split
    · simp [err]
    · have := scanF_len (r.length + 1) r [] 1
      simp at this ⊢; omega
end Go.Proofs.YthabfgpncebigaaDoor.Qt

/- tabulariumref07: hex, digit, short, unit. -/
namespace Go.Proofs.YthabfgpncebigaaDoor
open Go.RowKit

set_option maxHeartbeats 1000000 in
set_option maxRecDepth 100000 in
theorem hex_any (c : Nat) (w : World) (hc : c < 256) : Calls Tryd.prog 111 #[.int .u8 c] w fun e w' => e = .returned (.int .i64 (Qt.hexI c)) ∧ w = w' := by
  obtain ⟨r, hr⟩ : ∃ r, r = Qt.hexI c := ⟨_, rfl⟩
  rw [← hr]
  have HR := Lib.hid hr
  clear hr
  go_enter Tryd.func111, Tryd.ntmps111
  by_cases h1 : 48 ≤ c ∧ c ≤ 57
  · have hw : IntKind.u8.wrap ((c : Int) - 48) = (c : Int) - 48 := IntWalk.u8_in _ (by omega)
    go_wp2
    go_ret
    refine ⟨congrArg Ending.returned (congrArg (Value.int IntKind.i64) ?_), rfl⟩
    rw [HR.out]; unfold Qt.hexI Qt.hexv; rw [if_pos h1, if_neg (by omega)]; omega
  · by_cases h2 : 97 ≤ c ∧ c ≤ 102
    · have hw : IntKind.u8.wrap ((c : Int) - 97) = (c : Int) - 97 := IntWalk.u8_in _ (by omega)
      go_wp2
      go_ret
      refine ⟨congrArg Ending.returned (congrArg (Value.int IntKind.i64) ?_), rfl⟩
      rw [HR.out]; unfold Qt.hexI Qt.hexv; rw [if_neg h1, if_pos h2, if_neg (by omega)]; omega
    · by_cases h3 : 65 ≤ c ∧ c ≤ 70
      · have hw : IntKind.u8.wrap ((c : Int) - 65) = (c : Int) - 65 := IntWalk.u8_in _ (by omega)
        go_wp2
        go_ret
        refine ⟨congrArg Ending.returned (congrArg (Value.int IntKind.i64) ?_), rfl⟩
        rw [HR.out]; unfold Qt.hexI Qt.hexv; rw [if_neg h1, if_neg h2, if_pos h3, if_neg (by omega)]; omega
      · go_wp2 <;>
        (go_ret
         refine ⟨congrArg Ending.returned (congrArg (Value.int IntKind.i64) ?_), rfl⟩
         rw [HR.out]; unfold Qt.hexI Qt.hexv; rw [if_neg h1, if_neg h2, if_neg h3, if_pos rfl])

set_option maxHeartbeats 2000000 in
set_option maxRecDepth 100000 in
theorem rqunit_any (l : List UInt8) (p : Nat) (w : World) (hp : p ≤ 4611686018427387904) :
    Calls Tryd.prog 103 #[.string (str l), .int .i64 p] w fun e w' =>
      e = .returned (.tuple #[.int .i64 (Qt.unitF 4 0 (l.drop p)).1, .int .i64 (Qt.unitF 4 0 (l.drop p)).2]) ∧ w = w' := by
  go_enter Tryd.func103, Tryd.ntmps103
  go_wp2
  go_loop [6, 7] (fun nv iv => ∃ n i : Nat, nv = .int .i64 n ∧ iv = .int .i64 i ∧ i ≤ 4 ∧ n < 16 ^ i ∧ Hid (Qt.unitF (4 - i) n (l.drop (p + i)) = Qt.unitF 4 0 (l.drop p))) (fun _ iv => 4 - (intOf iv).toNat)
  case atStart => exact ⟨0, 0, rfl, rfl, by omega, by decide, rfl⟩
  case round =>
    obtain ⟨n, i, rfl, rfl, hi, hn, HS⟩ := hrel
    have hn4 : n < 65536 := Nat.lt_of_lt_of_le hn (Nat.pow_le_pow_right (by decide) hi)
    have HN := Lib.hid hn
    clear hn
    by_cases hi4 : i < 4
    · have hw1 : IntKind.i64.wrap ((p : Int) + i) = (p : Int) + i := IntWalk.i64_in _ (by omega)
      have HS1 := HS.out
      rw [show 4 - i = (3 - i) + 1 by omega] at HS1
      by_cases hlt : p + i < l.length
      · rw [List.drop_eq_getElem_cons hlt, Qt.unitF] at HS1
        have hnth := nth_eq hlt
        obtain ⟨b, hb⟩ : ∃ b, b = l[p + i] := ⟨_, rfl⟩
        rw [← hb] at hnth HS1
        have hb256 : b.toNat < 256 := b.toNat_lt
        have hx := fun W => hex_any b.toNat W hb256
        have e2 : 0 ≤ (p : Int) + i ∧ (p : Int) + i < l.length := by omega
        have e1 : ((p : Int) + i).toNat = p + i := by omega
        by_cases h16 : Qt.hexv b.toNat = 16
        · rw [if_pos h16] at HS1
          have hI : Qt.hexI b.toNat = -1 := by unfold Qt.hexI; rw [if_pos h16]
          rw [hI] at hx
          have HS2 := Lib.hid HS1
          clear HS1 HS hb hI h16
          go_wp2_with (first | (go_at_call 111; refine (hx _).mono ?_; rintro e w2 ⟨rfl, rfl⟩))
          go_returns
          exact ⟨by rw [← HS2.out]; rfl, rfl⟩
        · rw [if_neg h16] at HS1
          have hI : Qt.hexI b.toNat = (Qt.hexv b.toNat : Int) := by unfold Qt.hexI; rw [if_neg h16]
          have hle := Qt.hexv_le b.toNat
          rw [hI] at hx
          have HS2 := Lib.hid HS1
          clear HS1 HS hb hI
          obtain ⟨d, hd⟩ : ∃ d, d = Qt.hexv b.toNat := ⟨_, rfl⟩
          rw [← hd] at hx h16 hle
          have HS3 : Hid (Qt.unitF (3 - i) (n * 16 + d) (l.drop (p + i + 1)) = Qt.unitF 4 0 (l.drop p)) := by rw [hd]; exact HS2
          clear hd HS2
          have hw2 : IntKind.i64.wrap ((n : Int) * 16) = (n : Int) * 16 := IntWalk.i64_in _ (by omega)
          have hw3 : IntKind.i64.wrap ((n : Int) * 16 + d) = (n : Int) * 16 + d := IntWalk.i64_in _ (by omega)
          go_wp2_with (first | (go_at_call 111; refine (hx _).mono ?_; rintro e w2 ⟨rfl, rfl⟩))
          go_round
          case rel =>
            refine ⟨n * 16 + d, i + 1, by simp, by simp, by omega, ?_, ?_⟩
            · rw [Nat.pow_succ]
              have := HN.out
              omega
            · unfold Hid
              rw [← HS3.out, show 4 - (i + 1) = 3 - i by omega]; rfl
          case measure => simp [intOf]; omega
      · rw [List.drop_eq_nil_of_le (by omega), Qt.unitF] at HS1
        have HS2 := Lib.hid HS1
        clear HS1 HS
        go_wp2
        go_returns
        exact ⟨by rw [← HS2.out]; rfl, rfl⟩
    · have hi0 : i = 4 := by omega
      subst hi0
      go_wp2
      go_returns
      exact ⟨by rw [← HS.out]; rfl, rfl⟩
end Go.Proofs.YthabfgpncebigaaDoor

/- strings.Builder in a dump whose copyCheck stops short of its panic: copyCheck, WriteByte, WriteString (after the shelf's walks); String by the shelf. -/
namespace Go.Proofs.YthabfgpncebigaaDoor
open Go.RowKit

theorem sizeBuilder : (Tryd.prog.info? 95).map (fun i => decide (i.size ≠ 0)) = some true := by kernel_rfl
theorem liesBuilder : liesAt Tryd.prog Tryd.prog.depth 95 (2 / Tryd.prog.cellsOf 95) 0 95 1 = true := by kernel_rfl
theorem infoByte : (Tryd.prog.info? 5).map (fun i => (i.zero, i.size, i.bytes)) = some (some (.int .u8 0), 1, 1) := by kernel_rfl

/-- A builder in block b that holds these bytes. -/
def Bld (B b : Nat) (l : List UInt8) (w : World) : Prop := Lib.IsBuilder 95 5 B b (bval l) w

set_option maxHeartbeats 1000000 in
set_option maxRecDepth 100000 in
theorem bcheck_used (b : Nat) (w : World) (h0 : w.cell? ⟨b, 0, none⟩ = some (.pointer (some ⟨b, 0, none⟩))) :
    Calls Tryd.prog 92 #[.pointer (some ⟨b, 0, none⟩)] w fun e w' => e = .returned (.tuple #[]) ∧ w' = w := by
  obtain ⟨j, hj, _⟩ := Option.map_eq_some_iff.1 sizeBuilder
  go_enter Tryd.func92, Tryd.ntmps92
  go_wp2
  rw [Lib.run_neq_ptr_same w _ Tryd.underlying92 hj]
  go_wp2
  go_end0
  exact ⟨rfl, rfl⟩

set_option maxHeartbeats 1000000 in
set_option maxRecDepth 100000 in
theorem bcheck_fresh (b : Nat) (w : World) (h0 : w.cell? ⟨b, 0, none⟩ = some (.pointer none)) (hsh : w.shape? b = some (95, 2)) (hfz : w.frozen? ⟨b, 0, none⟩ = false) :
    Calls Tryd.prog 92 #[.pointer (some ⟨b, 0, none⟩)] w fun e w' => e = .returned (.tuple #[]) ∧ w' = w.setCell ⟨b, 0, none⟩ (.pointer (some ⟨b, 0, none⟩)) := by
  obtain ⟨j, hj, hjs⟩ := Option.map_eq_some_iff.1 sizeBuilder
  go_enter Tryd.func92, Tryd.ntmps92
  go_wp2
  rw [Lib.run_to_unsafe w ⟨b, 0, none⟩ Tryd.underlying92 Tryd.underlying128 hj (by simpa using hjs) hsh (Nat.zero_lt_succ 1)]
  simp only [Result.andThen]
  rw [Oper.upon_value]
  go_wp2
  rw [run_callFunc_extern Tryd.func106 (by kernel_rfl) (by kernel_rfl) (by kernel_rfl) (e := Extern.AbiNoEscape.same) (by kernel_rfl)]
  rw [Lib.run_noEscape]
  simp only [Result.andThen]
  rw [Oper.upon_value]
  go_wp2
  rw [Lib.run_from_unsafe w ⟨b, 0, none⟩ Tryd.underlying128 Tryd.underlying92 hj hsh liesBuilder]
  simp only [Result.andThen]
  rw [Oper.upon_value]
  go_wp2
  go_end0
  exact ⟨rfl, rfl⟩

theorem bcheck_any (B b : Nat) (l : List UInt8) (w : World) (h : Bld B b l w) :
    Calls Tryd.prog 92 #[.pointer (some ⟨b, 0, none⟩)] w fun e w' => e = .returned (.tuple #[]) ∧ (Lib.BuilderAt 95 5 B b (.pointer (some ⟨b, 0, none⟩)) (bval l) w' ∧ Below B w w') := by
  rcases h with h | h
  · refine (bcheck_fresh b w h.cell0 h.shape h.frozen0).mono ?_
    rintro e w' ⟨rfl, rfl⟩
    exact ⟨rfl, h.used _, (Below.refl B w).setCell (p := ⟨b, 0, none⟩) h.1 _⟩
  · refine (bcheck_used b w h.cell0).mono ?_
    rintro e w' ⟨rfl, rfl⟩
    exact ⟨rfl, h, Below.refl B _⟩

theorem strCells_str (s : List UInt8) : Lib.strCells (str s) = bval s := by simp [Lib.strCells, str, bval]
set_option maxHeartbeats 2000000 in
set_option maxRecDepth 100000 in
theorem bwstring_any (B b : Nat) (l s : List UInt8) (w : World) (h : Bld B b l w) (hlen : l.length + s.length ≤ 1000000000) (hBw : B ≤ w.heap.size) :
    Calls Tryd.prog 70 #[.pointer (some ⟨b, 0, none⟩), .string (str s)] w fun e w' => e = .returned (.tuple #[.int .i64 s.length, .nilIface]) ∧ Bld B b (l ++ s) w' ∧ Below B w w' := by
  obtain ⟨i0, hi, hz0, hz1, hz2⟩ := info_parts infoByte
  go_enter Tryd.func70, Tryd.ntmps70
  go_wp2_with (go_at_call 92; refine (bcheck_any B b l _ h).mono ?_)
  rintro e w1 ⟨rfl, h1, hb1⟩
  obtain ⟨hB, v, hbk, hown, hne⟩ := h1
  have c0 : w1.cell? ⟨b, 0, none⟩ = some (.pointer (some ⟨b, 0, none⟩)) := by rw [Lib.cell_of_heap hbk]; rfl
  have c1 : w1.cell? ⟨b, 1, none⟩ = some v := by rw [Lib.cell_of_heap hbk]; rfl
  go_wp2_with (at_builtin; refine Lib.wpList_append_own_string _ rfl _ _ 93 9 rfl B 5 i0 Tryd.underlying93 Tryd.underlying9 hi hz0 hz1 hz2 _ _ _ rfl hown (str s) rfl ?c3 ?c4 ?c5 ?_)
  case c3 => rw [bval_length, str_size]; unfold maxLen; omega
  case c4 => rw [bval_length, str_size]; omega
  case c5 => have := hb1.size; omega
  intro v' w2 hown' hgrow _
  have hlt : b < w1.heap.size := by
    rcases Nat.lt_or_ge b w1.heap.size with h' | h'
    · exact h'
    · simp [Array.getElem?_eq_none h'] at hbk
  have hb2 : w2.heap[b]? = some (.cells #[.pointer (some ⟨b, 0, none⟩), v] 95 (0, 0)) := by
    rw [hgrow.block b hlt (fun e => hne e.symm)]
    exact hbk
  have d0 : w2.cell? ⟨b, 0, none⟩ = some (.pointer (some ⟨b, 0, none⟩)) := by rw [Lib.cell_of_heap hb2]; rfl
  have d1 : w2.cell? ⟨b, 1, none⟩ = some v := by rw [Lib.cell_of_heap hb2]; rfl
  have f1 : w2.frozen? ⟨b, 1, none⟩ = false := Lib.frozen_of_heap hb2 1
  obtain ⟨ao, n', cap, rfl⟩ : ∃ ao n' cap, v' = .slice ao n' cap := by
    rcases hown'.2 with ⟨hv, _⟩ | ⟨g, cap, cur, hv, _⟩
    · exact ⟨_, _, _, hv⟩
    · exact ⟨_, _, _, hv⟩
  go_wp2
  go_ret2
  refine ⟨rfl, .inr ?_, ?_⟩
  · rw [bval_append, ← strCells_str s]
    exact Lib.BuilderAt.put (T := 95) (e := 5) hB hb2 (bs' := bval l ++ Lib.strCells (str s)) (by simpa [Lib.strCells_length, str_size] using hown') (by decide)
  · exact (hb1.grown hgrow (by have := hb1.size; omega) (fun k hk => (hown.lt k hk).1)).setCell (p := ⟨b, 1, none⟩) hB _

theorem bstring_any (B b : Nat) (l : List UInt8) (w : World) (h : Bld B b l w) (hBw : B ≤ w.heap.size) :
    Calls Tryd.prog 69 #[.pointer (some ⟨b, 0, none⟩)] w fun e w' => e = .returned (.string (str l)) ∧ Below B w w' :=
  Tryd.Builder_String_any B b l w h hBw
end Go.Proofs.YthabfgpncebigaaDoor

/- quote: must, byte, exactly. -/
namespace Go.Proofs.YthabfgpncebigaaDoor
open Go.RowKit

/-- A panic with an error's number. -/
abbrev dies (e : Nat) : Ending := .panicked [{ v := .iface 24 (.int .i64 e), recovered := false }]

set_option maxRecDepth 100000 in
theorem must_yes (e : Int) (w : World) : Calls Tryd.prog 68 #[.bool true, .int .i64 e] w fun r w' => r = .returned (.tuple #[]) ∧ w = w' := by
  go_enter Tryd.func68, Tryd.ntmps68
  go_wp2
  go_returns
  exact ⟨rfl, rfl⟩
set_option maxRecDepth 100000 in
theorem must_no (e : Int) (w : World) : Calls Tryd.prog 68 #[.bool false, .int .i64 e] w fun r w' => r = .panicked [{ v := .iface 24 (.int .i64 e), recovered := false }] ∧ w = w' := by
  go_enter Tryd.func68, Tryd.ntmps68
  go_wp2
  exact ⟨rfl, rfl, rfl⟩

/-- A reader in block b, at a place. -/
def Qrd (b : Nat) (l : List UInt8) (i : Nat) (w : World) : Prop := w.heap[b]? = some (.cells #[.string (str l), .int .i64 i] 90 (0, 0))
section
variable {b i : Nat} {l : List UInt8} {w w' : World}
theorem Qrd.cell0 (h : Qrd b l i w) : w.cell? ⟨b, 0, none⟩ = some (.string (str l)) := by unfold Qrd at h; simp [World.cell?, h]
theorem Qrd.cell1 (h : Qrd b l i w) : w.cell? ⟨b, 1, none⟩ = some (.int .i64 i) := by unfold Qrd at h; simp [World.cell?, h]
theorem Qrd.frozen (h : Qrd b l i w) (j : Nat) : w.frozen? ⟨b, j, none⟩ = false := by unfold Qrd at h; simp [World.frozen?, h]
theorem Qrd.lt (h : Qrd b l i w) : b < w.heap.size := by
  rcases Nat.lt_or_ge b w.heap.size with h' | h'
  · exact h'
  · unfold Qrd at h; simp [Array.getElem?_eq_none h'] at h
theorem Qrd.drew (h : Qrd b l i w) : Qrd b l i w.drew := h
theorem Qrd.set (h : Qrd b l i w) (j : Nat) : Qrd b l j (w.setCell ⟨b, 1, none⟩ (.int .i64 j)) := by
  unfold Qrd at h ⊢; simp [World.setCell, Array.getElem?_modify, h]
theorem Qrd.below (h : Qrd b l i w) (hB : Below w.heap.size w w') : Qrd b l i w' := (hB.block b h.lt).trans h
end
/-- All but the reader is as it was. -/
abbrev QE (b : Nat) (w w' : World) : Prop := Ext (fun k => k = b) w w'
theorem QE.of_below {b : Nat} {w w' : World} (h : Below w.heap.size w w') : QE b w w' := Ext.of_below h

set_option maxHeartbeats 1000000 in
set_option maxRecDepth 100000 in
theorem qbyte_ok (b i : Nat) (l : List UInt8) (w : World) (hR : Qrd b l i w) (hi : i < l.length) (hl : l.length ≤ 1000000000) :
    Calls Tryd.prog 91 #[.pointer (some ⟨b, 0, none⟩)] w fun e w' => e = .returned (.int .u8 (Qt.bt l i)) ∧ Qrd b l (i + 1) w' ∧ QE b w w' := by
  have c0 := hR.cell0
  have c1 := hR.cell1
  have f1 := hR.frozen 1
  have hlt : (i : Int) < (l.length : Int) := by omega
  have hd : decide ((i : Int) < (l.length : Int)) = true := by simpa using hlt
  have hw1 : IntKind.i64.wrap ((i : Int) + 1) = (i : Int) + 1 := IntWalk.i64_in _ (by omega)
  have hx : nth l i = (Qt.bt l i : Int) := rfl
  go_enter Tryd.func91, Tryd.ntmps91
  go_wp2
  go_still_tail 10, (by kernel_rfl)
  go_wp2_with (first | (go_at_call 68; refine (must_yes _ _).mono ?_; rintro e w2 ⟨rfl, rfl⟩))
  have hR2 := (hR.set (i + 1)).drew
  have g0 := hR2.cell0
  have g1 := hR2.cell1
  have hw2 : IntKind.i64.wrap ((i : Int) + 1 - 1) = (i : Int) := by rw [IntWalk.i64_in _ (by omega)]; omega
  have hB : QE b w (w.setCell ⟨b, 1, none⟩ (.int .i64 ((i + 1 : Nat) : Int))).drew := (Ext.setCell (T := fun k => k = b) (p := ⟨b, 1, none⟩) (Ext.refl _ w) rfl _).drew
  have ei : ((i + 1 : Nat) : Int) = (i : Int) + 1 := by omega
  rw [ei] at g1 hB hR2 g0
  generalize hW : (w.setCell ⟨b, 1, none⟩ (.int .i64 ((i : Int) + 1))).drew = w2 at *
  clear hW c0 c1 f1
  have hi0 : (0 : Int) ≤ (i : Int) := by omega
  go_quiet (fail)
  go_wp2
  go_returns
  refine ⟨rfl, ?_, ?_⟩
  · exact hR2
  · exact hB.trans (Ext.of_below (below_drewN_self _ _ _))
set_option maxHeartbeats 1000000 in
set_option maxRecDepth 100000 in
theorem qbyte_no (b i : Nat) (l : List UInt8) (w : World) (hR : Qrd b l i w) (hi : ¬ i < l.length) :
    Calls Tryd.prog 91 #[.pointer (some ⟨b, 0, none⟩)] w fun e w' => e = dies 2 ∧ QE b w w' := by
  have c0 := hR.cell0
  have c1 := hR.cell1
  have hd : decide ((i : Int) < (l.length : Int)) = false := by simp; omega
  go_enter Tryd.func91, Tryd.ntmps91
  go_wp2
  go_still_tail 10, (by kernel_rfl)
  go_wp2_with (first | (go_at_call 68; refine (must_no _ _).mono ?_; rintro e w2 ⟨rfl, rfl⟩))
  exact ⟨rfl, rfl, (Ext.refl _ w).drew⟩

set_option maxHeartbeats 1000000 in
set_option maxRecDepth 100000 in
theorem qexactly_ok (b i : Nat) (c : Nat) (l : List UInt8) (w : World) (hR : Qrd b l i w) (hi : i < l.length) (hl : l.length ≤ 1000000000) (hc : Qt.bt l i = c) :
    Calls Tryd.prog 67 #[.pointer (some ⟨b, 0, none⟩), .int .u8 c] w fun e w' => e = .returned (.tuple #[]) ∧ Qrd b l (i + 1) w' ∧ QE b w w' := by
  have hb := qbyte_ok b i l w hR hi hl
  rw [hc] at hb
  clear hc
  go_enter Tryd.func67, Tryd.ntmps67
  go_wp2_with fail
  refine hb.mono ?_
  rintro e w2 ⟨rfl, hR2, hE2⟩
  go_wp2_with (first | (go_at_call 68; refine (must_yes _ _).mono ?_; rintro e w2 ⟨rfl, rfl⟩))
  go_end0
  exact ⟨rfl, hR2, hE2⟩
/-- What 'exactly' gives up with. -/
def exErr (l : List UInt8) (i : Nat) : Nat := if i < l.length then 3 else 2
set_option maxHeartbeats 1000000 in
set_option maxRecDepth 100000 in
theorem qexactly_no (b i : Nat) (c : Nat) (l : List UInt8) (w : World) (hR : Qrd b l i w) (hl : l.length ≤ 1000000000) (hc : i < l.length → Qt.bt l i ≠ c) :
    Calls Tryd.prog 67 #[.pointer (some ⟨b, 0, none⟩), .int .u8 c] w fun e w' => e = dies (exErr l i) ∧ QE b w w' := by
  by_cases hi : i < l.length
  · have hb := qbyte_ok b i l w hR hi hl
    have he : exErr l i = 3 := if_pos hi
    rw [he]
    have hcb : ((Qt.bt l i : Int) == c) = false := by have := hc hi; simp; omega
    generalize Qt.bt l i = d at *
    go_enter Tryd.func67, Tryd.ntmps67
    go_wp2_with fail
    refine hb.mono ?_
    rintro e w2 ⟨rfl, hR2, hE2⟩
    go_wp2_with (first | (go_at_call 68; refine (must_no _ _).mono ?_; rintro e w2 ⟨rfl, rfl⟩))
    exact ⟨rfl, rfl, hE2⟩
  · have hb := qbyte_no b i l w hR hi
    have he : exErr l i = 2 := if_neg hi
    rw [he]
    go_enter Tryd.func67, Tryd.ntmps67
    go_wp2_with fail
    refine hb.mono ?_
    rintro e w2 ⟨rfl, hE2⟩
    go_wp2
    exact ⟨rfl, rfl, hE2⟩
end Go.Proofs.YthabfgpncebigaaDoor

/- quote: unit. -/
namespace Go.Proofs.YthabfgpncebigaaDoor
open Go.RowKit

/-- Where a digit stands among the digits; -1: nowhere. -/
def idxD (c : Nat) : Int := if 48 ≤ c ∧ c ≤ 57 then (c : Int) - 48 else if 97 ≤ c ∧ c ≤ 102 then (c : Int) - 87 else -1
/-- A capital's small letter, of A to F. -/
def lowr (c : Nat) : Nat := if 65 ≤ c ∧ c ≤ 70 then c + 32 else c
theorem idxD_lowr (c : Nat) : idxD (lowr c) = Qt.hexI c := by
  unfold idxD lowr
  by_cases h1 : 65 ≤ c ∧ c ≤ 70
  · have e : Qt.hexv c = c - 55 := by unfold Qt.hexv; rw [if_neg (by omega), if_neg (by omega), if_pos h1]
    unfold Qt.hexI
    rw [if_pos h1, if_neg (by omega), if_pos (by omega), e, if_neg (by omega)]; omega
  · unfold Qt.hexI Qt.hexv
    rw [if_neg h1]
    by_cases h2 : 48 ≤ c ∧ c ≤ 57
    · rw [if_pos h2, if_pos h2, if_neg (by omega)]; omega
    · rw [if_neg h2, if_neg h2]
      by_cases h3 : 97 ≤ c ∧ c ≤ 102
      · rw [if_pos h3, if_pos h3, if_neg (by omega)]; omega
      · rw [if_neg h3, if_neg h3, if_neg h1, if_pos rfl]
theorem digs_eq : ∀ c : Fin 256, Lib.indexByte (ByteArray.mk #[48, 49, 50, 51, 52, 53, 54, 55, 56, 57, 97, 98, 99, 100, 101, 102]).data.toList ((c.val : Int).toNat.toUInt8) = idxD c.val := by decide +kernel
theorem digs_any (c : Nat) (w : World) (hc : c < 256) : Calls Tryd.prog 30 #[.string (ByteArray.mk #[48, 49, 50, 51, 52, 53, 54, 55, 56, 57, 97, 98, 99, 100, 101, 102]), .int .u8 c] w fun e w' => e = .returned (.int .i64 (idxD c)) ∧ w = w' := by
  refine (Tryd.strings_IndexByte _ _ w).mono ?_
  rintro e w' ⟨rfl, rfl⟩
  exact ⟨by rw [digs_eq ⟨c, hc⟩], rfl⟩

theorem or4 (n d : Nat) (hn : n < 65536) (hd : d < 16) : bits .or .i64 ((n : Int) * 16) (d : Int) = ((n * 16 + d : Nat) : Int) := by
  rw [show (n : Int) * 16 = ((n * 16 : Nat) : Int) by omega, i64_or_nat _ _ (by omega) (by omega)]
  congr 1
  rw [show n * 16 = n <<< 4 by rw [Nat.shiftLeft_eq], ← Nat.shiftLeft_add_eq_or_of_lt (show d < 2 ^ 4 by omega)]

set_option maxHeartbeats 2000000 in
set_option maxRecDepth 100000 in
theorem qunit_any (b i : Nat) (l : List UInt8) (w : World) (hR : Qrd b l i w) (hl : l.length ≤ 1000000000) :
    Calls Tryd.prog 93 #[.pointer (some ⟨b, 0, none⟩)] w fun e w' => QE b w w' ∧
      (((Qt.unitF 4 0 (l.drop i)).2 = 0 ∧ e = .returned (.int .i64 (Qt.unitF 4 0 (l.drop i)).1) ∧ Qrd b l (i + 4) w') ∨ ((Qt.unitF 4 0 (l.drop i)).2 ≠ 0 ∧ e = dies (Qt.unitF 4 0 (l.drop i)).2)) := by
  obtain ⟨U, hU⟩ : ∃ U, Qt.unitF 4 0 (l.drop i) = U := ⟨_, rfl⟩
  rw [hU]
  go_enter Tryd.func93, Tryd.ntmps93
  go_wp2
  go_loopw [3, 6] (fun nv iv wr => ∃ n k : Nat, nv = .int .i64 n ∧ iv = .int .i64 k ∧ k ≤ 4 ∧ Hid (n < 16 ^ k) ∧ Hid (Qrd b l (i + k) wr ∧ QE b w wr ∧ Qt.unitF (4 - k) n (l.drop (i + k)) = U)) (fun _ iv _ => 4 - (intOf iv).toNat)
  case atStart => exact ⟨0, 0, rfl, rfl, by omega, by unfold Hid; decide, hR, Ext.refl _ _, hU⟩
  case round =>
    obtain ⟨n, k, rfl, rfl, hk, hn, HS⟩ := hrel
    have hn4 : n < 65536 := Nat.lt_of_lt_of_le hn.out (Nat.pow_le_pow_right (by decide) hk)
    by_cases hk4 : k < 4
    · have HS1 := HS.out.2.2
      have hR1 := HS.out.1
      rw [show 4 - k = (3 - k) + 1 by omega] at HS1
      by_cases hlt : i + k < l.length
      · have hby := qbyte_ok b (i + k) l wr hR1 hlt hl
        rw [List.drop_eq_getElem_cons hlt, Qt.unitF, Qt.bt_eq hlt] at HS1
        have hc : Qt.bt l (i + k) < 256 := (l.getD (i + k) 0).toNat_lt
        generalize Qt.bt l (i + k) = c at *
        have hdg := fun W => digs_any (lowr c) W (by unfold lowr; split <;> omega)
        rw [idxD_lowr] at hdg
        have hle := Qt.hexv_le c
        have HL : lowr c = if 65 ≤ c ∧ c ≤ 70 then c + 32 else c := rfl
        have HI : Qt.hexI c = if Qt.hexv c = 16 then -1 else (Qt.hexv c : Int) := rfl
        generalize Qt.hexv c = d at *
        generalize Qt.hexI c = x at *
        generalize lowr c = c' at *
        have hs : Hid (if d = 16 then U = (0, 3) ∧ x = -1 else Qt.unitF (3 - k) (n * 16 + d) (l.drop (i + k + 1)) = U ∧ x = d) := by
          by_cases h16 : d = 16
          · rw [if_pos h16] at HS1 HI
            unfold Hid; rw [if_pos h16]; exact ⟨HS1.symm, HI⟩
          · rw [if_neg h16] at HS1 HI
            unfold Hid; rw [if_neg h16]; exact ⟨HS1, HI⟩
        clear HS1 HI
        have hR0 := Lib.hid hR1
        clear hR1
        go_wp2_with fail
        refine hby.mono ?_
        rintro e w2 ⟨rfl, hR2, hE2⟩
        have HR2 := Lib.hid (And.intro hR2 hE2)
        clear hR2 hE2 hby
        have hcap : (¬(65 ≤ c ∧ c ≤ 70) ∧ c' = c) ∨ (65 ≤ c ∧ c ≤ 70) := by
          by_cases h : 65 ≤ c ∧ c ≤ 70
          · exact .inr h
          · exact .inl ⟨h, by rw [HL, if_neg h]⟩
        rcases hcap with ⟨hcap, rfl⟩ | hcap
        · clear HL
          go_wp2_with fail
          all_goals
          refine (hdg _).mono ?_
          rintro e w3 ⟨rfl, rfl⟩
          by_cases h16 : d = 16
          · have hs1 := hs.out
            rw [if_pos h16] at hs1
            obtain ⟨hU2, rfl⟩ := hs1
            have HU := Lib.hid hU2
            clear hU2 hU hs
            go_wp2_with (first | (go_at_call 68; refine (must_no _ _).mono ?_; rintro e w2 ⟨rfl, rfl⟩))
            refine ⟨rfl, HS.out.2.1.trans HR2.out.2, .inr ⟨by rw [HU.out]; simp, by rw [HU.out]; rfl⟩⟩
          · have hs1 := hs.out
            rw [if_neg h16] at hs1
            obtain ⟨hU2, rfl⟩ := hs1
            have HU := Lib.hid hU2
            clear hU2 hU hs
            have ho := or4 n d hn4 (by omega)
            have hsh : IntKind.i64.wrap ((n : Int) * 16) = (n : Int) * 16 := IntWalk.i64_in _ (by omega)
            go_wp2_with (first | (go_at_call 68; refine (must_yes _ _).mono ?_; rintro e w2 ⟨rfl, rfl⟩))
            go_roundw
            case rel =>
              refine ⟨n * 16 + d, k + 1, by simp, by simp, by omega, ?_, ?_⟩
              · unfold Hid
                have := hn.out
                rw [Nat.pow_succ]; omega
              · exact ⟨HR2.out.1, HS.out.2.1.trans HR2.out.2, by rw [show 4 - (k + 1) = 3 - k by omega]; exact HU.out⟩
            case measure => simp [intOf]; omega
        · have hc' : ((c' : Nat) : Int) = (c : Int) + 32 := by rw [HL, if_pos hcap]; omega
          have hw1 : IntKind.u8.wrap ((c : Int) + 32) = (c : Int) + 32 := IntWalk.u8_in _ (by omega)
          rw [hc'] at hdg
          clear HL hc'
          go_wp2_with fail
          all_goals
          refine (hdg _).mono ?_
          rintro e w3 ⟨rfl, rfl⟩
          by_cases h16 : d = 16
          · have hs1 := hs.out
            rw [if_pos h16] at hs1
            obtain ⟨hU2, rfl⟩ := hs1
            have HU := Lib.hid hU2
            clear hU2 hU hs
            go_wp2_with (first | (go_at_call 68; refine (must_no _ _).mono ?_; rintro e w2 ⟨rfl, rfl⟩))
            refine ⟨rfl, HS.out.2.1.trans HR2.out.2, .inr ⟨by rw [HU.out]; simp, by rw [HU.out]; rfl⟩⟩
          · have hs1 := hs.out
            rw [if_neg h16] at hs1
            obtain ⟨hU2, rfl⟩ := hs1
            have HU := Lib.hid hU2
            clear hU2 hU hs
            have ho := or4 n d hn4 (by omega)
            have hsh : IntKind.i64.wrap ((n : Int) * 16) = (n : Int) * 16 := IntWalk.i64_in _ (by omega)
            go_wp2_with (first | (go_at_call 68; refine (must_yes _ _).mono ?_; rintro e w2 ⟨rfl, rfl⟩))
            go_roundw
            case rel =>
              refine ⟨n * 16 + d, k + 1, by simp, by simp, by omega, ?_, ?_⟩
              · unfold Hid
                have := hn.out
                rw [Nat.pow_succ]; omega
              · exact ⟨HR2.out.1, HS.out.2.1.trans HR2.out.2, by rw [show 4 - (k + 1) = 3 - k by omega]; exact HU.out⟩
            case measure => simp [intOf]; omega
      · have hby := qbyte_no b (i + k) l wr hR1 hlt
        rw [List.drop_eq_nil_of_le (by omega), Qt.unitF] at HS1
        have HU := Lib.hid HS1
        clear HS1 hR1 hU
        go_wp2_with fail
        refine hby.mono ?_
        rintro e w2 ⟨rfl, hE2⟩
        go_wp2
        refine ⟨rfl, HS.out.2.1.trans hE2, .inr ⟨by rw [← HU.out]; simp, by rw [← HU.out]; rfl⟩⟩
    · obtain rfl : k = 4 := by omega
      have HS1 : U = (n, 0) := HS.out.2.2.symm
      have HU := Lib.hid HS1
      clear HS1 hU
      go_wp2
      go_returns
      exact ⟨HS.out.2.1, .inl ⟨by rw [HU.out], by rw [HU.out]; rfl, HS.out.1⟩⟩
end Go.Proofs.YthabfgpncebigaaDoor

/- quote: escape, of two units. -/
namespace Go.Proofs.YthabfgpncebigaaDoor
open Go.RowKit

def signsL : List UInt8 := [34, 92, 47, 98, 102, 110, 114, 116]
def meansL : List UInt8 := [34, 92, 47, 8, 12, 10, 13, 9]
theorem sgn_eq : ∀ c : Fin 256, (Qt.mean c.val = 0 ∧ Lib.indexByte (ByteArray.mk #[34, 92, 47, 98, 102, 110, 114, 116]).data.toList ((c.val : Int).toNat.toUInt8) = -1) ∨
    (Qt.mean c.val ≠ 0 ∧ ∃ k : Fin 8, Lib.indexByte (ByteArray.mk #[34, 92, 47, 98, 102, 110, 114, 116]).data.toList ((c.val : Int).toNat.toUInt8) = (k.val : Int) ∧ (meansL.drop k.val).take 1 = [UInt8.ofNat (Qt.mean c.val)]) := by decide +kernel
theorem sgn_no (c : Nat) (w : World) (hc : c < 256) (hm : Qt.mean c = 0) : Calls Tryd.prog 30 #[.string (ByteArray.mk #[34, 92, 47, 98, 102, 110, 114, 116]), .int .u8 c] w fun e w' => e = .returned (.int .i64 (-1)) ∧ w = w' := by
  refine (Tryd.strings_IndexByte _ _ w).mono ?_
  rintro e w' ⟨rfl, rfl⟩
  rcases sgn_eq ⟨c, hc⟩ with ⟨_, h⟩ | ⟨h, _⟩
  · exact ⟨by rw [h], rfl⟩
  · exact absurd hm h
theorem sgn_yes (c : Nat) (hc : c < 256) (hm : Qt.mean c ≠ 0) : ∃ k : Nat, k < 8 ∧ (meansL.drop k).take 1 = [UInt8.ofNat (Qt.mean c)] ∧ ∀ w, Calls Tryd.prog 30 #[.string (ByteArray.mk #[34, 92, 47, 98, 102, 110, 114, 116]), .int .u8 c] w fun e w' => e = .returned (.int .i64 k) ∧ w = w' := by
  rcases sgn_eq ⟨c, hc⟩ with ⟨h, _⟩ | ⟨_, k, h1, h2⟩
  · exact absurd h hm
  · refine ⟨k.val, k.isLt, h2, fun w => (Tryd.strings_IndexByte _ _ w).mono ?_⟩
    rintro e w' ⟨rfl, rfl⟩
    exact ⟨by rw [h1], rfl⟩

theorem must_no' (c : Bool) (e : Int) (w : World) (hc : c = false) : Calls Tryd.prog 68 #[.bool c, .int .i64 e] w fun r w' => r = .panicked [{ v := .iface 24 (.int .i64 e), recovered := false }] ∧ w = w' := by
  rw [hc]; exact must_no e w
theorem must_yes' (c : Bool) (e : Int) (w : World) (hc : c = true) : Calls Tryd.prog 68 #[.bool c, .int .i64 e] w fun r w' => r = .returned (.tuple #[]) ∧ w = w' := by
  rw [hc]; exact must_yes e w

/-- What reading a part leaves. -/
def Qres (b : Nat) (l : List UInt8) (w : World) (q : Qt.Pt) (p : Nat) (e : Ending) (w' : World) : Prop :=
  QE b w w' ∧ ((q.e = 0 ∧ e = .returned (.string (str q.s)) ∧ Qrd b l p w') ∨ (q.e ≠ 0 ∧ e = dies q.e))
theorem Qres.yes {b : Nat} {l : List UInt8} {w w' : World} {q : Qt.Pt} {p : Nat} {s : List UInt8} {n : Nat} (h : Hid (q = ⟨s, n, 0⟩)) (hE : QE b w w') (hR : Qrd b l p w') : Qres b l w q p (.returned (.string (str s))) w' := by
  rw [h.out]; exact ⟨hE, .inl ⟨rfl, rfl, hR⟩⟩
theorem Qres.no {b : Nat} {l : List UInt8} {w w' : World} {q : Qt.Pt} {p : Nat} {e : Nat} (h : Hid (q = Qt.err e)) (he : e ≠ 0) (hE : QE b w w') : Qres b l w q p (dies e) w' := by
  rw [h.out]; exact ⟨hE, .inr ⟨he, rfl⟩⟩
theorem forms_QE {b i : Nat} {l : List UInt8} {w w' : World} (hF : Forms w) (hR : Qrd b l i w) (hE : QE b w w') : Forms w' := by
  have hne : 3 ≠ b := by
    rintro rfl
    have h2 := hF.2 2 (by omega)
    unfold Qrd at hR
    simp [World.cell?, hR] at h2
  exact ⟨Nat.lt_of_lt_of_le hF.1 hE.size, fun j hj => (World.cell?_of_block (a := ⟨3, j, none⟩) (hE.block _ hF.1 hne)).trans (hF.2 j hj)⟩

theorem qunit_ok (b i n : Nat) (l : List UInt8) (w : World) (hR : Qrd b l i w) (hl : l.length ≤ 1000000000) (hn : Qt.unitF 4 0 (l.drop i) = (n, 0)) :
    Calls Tryd.prog 93 #[.pointer (some ⟨b, 0, none⟩)] w fun e w' => e = .returned (.int .i64 n) ∧ Qrd b l (i + 4) w' ∧ QE b w w' := by
  refine (qunit_any b i l w hR hl).mono ?_
  rintro e w' ⟨hE, (⟨_, rfl, h⟩ | ⟨h, _⟩)⟩
  · rw [hn]; exact ⟨rfl, h, hE⟩
  · rw [hn] at h; exact absurd rfl h
theorem qunit_no (b i n e : Nat) (l : List UInt8) (w : World) (hR : Qrd b l i w) (hl : l.length ≤ 1000000000) (hn : Qt.unitF 4 0 (l.drop i) = (n, e)) (he : e ≠ 0) :
    Calls Tryd.prog 93 #[.pointer (some ⟨b, 0, none⟩)] w fun r w' => r = dies e ∧ QE b w w' := by
  refine (qunit_any b i l w hR hl).mono ?_
  rintro e w' ⟨hE, (⟨h, _⟩ | ⟨_, rfl⟩)⟩
  · rw [hn] at h; exact absurd h he
  · rw [hn]; exact ⟨rfl, hE⟩

set_option maxHeartbeats 4000000 in
set_option maxRecDepth 1000000 in
theorem qescape_two (b i n : Nat) (l : List UInt8) (w : World) (hR : Qrd b l i w) (hF : Forms w) (hl : l.length ≤ 1000000000) (hlt : i < l.length) (hc : Qt.bt l i = 117)
    (hn : Qt.unitF 4 0 (l.drop (i + 1)) = (n, 0)) (h1 : 55296 ≤ n) (h2 : n < 56320) (q : Qt.Pt) (hq : q = Qt.low n (l.drop (i + 5))) :
    Calls Tryd.prog 71 #[.pointer (some ⟨b, 0, none⟩)] w (Qres b l w q (i + q.n - 1)) := by
  have hby := qbyte_ok b i l w hR hlt hl
  rw [hc] at hby
  have hsg := fun W => sgn_no 117 W (by omega) (by decide)
  have hun := fun W hR => qunit_ok b (i + 1) n l W hR hl hn
  rw [Qt.low_at, Qt.low2.eq_def] at hq
  rw [show i + 5 + 1 = i + 6 by omega, show i + 5 + 2 = i + 7 by omega] at hq
  have hlt2 := Qt.unit_lt (l.drop (i + 7))
  obtain ⟨m, e2, hmf⟩ : ∃ m f, Qt.unitF 4 0 (l.drop (i + 7)) = (m, f) := ⟨_, _, rfl⟩
  rw [hmf] at hq hlt2
  simp only at hq hlt2
  have HQ := Lib.hid hq
  have HM := Lib.hid hmf
  have b1 : decide ((n : Int) < 56320) = true := by simp; omega
  have b2 : decide ((55296 : Int) ≤ (n : Int)) = true := by simp; omega
  have HN := Lib.hid (And.intro h1 (And.intro h2 hlt2))
  clear hq hmf h1 h2 hlt2 hn hc
  go_enter Tryd.func71, Tryd.ntmps71
  go_wp2_with fail
  refine hby.mono ?_
  rintro e w2 ⟨rfl, hR2, hE2⟩
  go_wp2_with fail
  refine (hsg _).mono ?_
  rintro e w3 ⟨rfl, rfl⟩
  go_wp2_with (first | (go_at_call 68; refine (must_yes _ _).mono ?_; rintro e w2 ⟨rfl, rfl⟩))
  refine (hun _ hR2).mono ?_
  rintro e w3 ⟨rfl, hR3, hE3⟩
  have HE3 := Lib.hid (hE2.trans hE3)
  clear hE2 hE3 hR2 hun hby hsg
  go_wp2_with fail
  refine (must_yes' _ _ _ (by simp)).mono ?_
  rintro e w4 ⟨rfl, rfl⟩
  by_cases g1 : i + 5 < l.length ∧ Qt.bt l (i + 5) = 92
  · have hx1 := fun W hR => qexactly_ok b (i + 5) 92 l W hR g1.1 hl g1.2
    have G1 := Lib.hid g1
    clear g1
    go_wp2_with fail
    refine (hx1 _ hR3).mono ?_
    rintro e w4 ⟨rfl, hR4, hE4⟩
    clear hx1
    by_cases g2 : i + 6 < l.length ∧ Qt.bt l (i + 6) = 117
    · have hx2 := fun W hR => qexactly_ok b (i + 6) 117 l W hR g2.1 hl g2.2
      have HQ2 : Hid (q = if e2 ≠ 0 then Qt.err e2 else if m < 56320 ∨ 57343 < m then Qt.err 3 else ⟨Utf.enc (65536 + (n - 55296) * 1024 + m - 56320), 12, 0⟩) := by
        unfold Hid
        have := G1.out
        rw [HQ.out, if_neg (by omega), if_neg (by simp [this.2]), if_neg (by omega), if_neg (by simp [g2.2])]
      clear HQ g2
      go_wp2_with fail
      refine (hx2 _ hR4).mono ?_
      rintro e w5 ⟨rfl, hR5, hE5⟩
      clear hx2 hR4
      by_cases g3 : e2 = 0
      · subst g3
        have hun := fun W hR => qunit_ok b (i + 7) m l W hR hl HM.out
        go_wp2_with fail
        refine (hun _ hR5).mono ?_
        rintro e w6 ⟨rfl, hR6, hE6⟩
        have HE6 := Lib.hid ((HE3.out.trans hE4).trans (hE5.trans hE6))
        have HR6 := Lib.hid hR6
        clear hE4 hE5 hE6 hR5 hR6 hun HM HE3 hR3
        by_cases g4 : m < 56320 ∨ 57343 < m
        · have HQ3 : Hid (q = Qt.err 3) := by unfold Hid; rw [HQ2.out, if_neg (by simp), if_pos g4]
          clear HQ2
          rcases g4 with g4 | g4
          · have c1 : decide ((56320 : Int) ≤ (m : Int)) = false := by simp; omega
            clear g4
            go_wp2_with fail
            refine (must_no' _ _ _ (by simp)).mono ?_
            rintro e w4 ⟨rfl, rfl⟩
            go_wp2
            exact ⟨rfl, Qres.no HQ3 (by decide) HE6.out⟩
          · have c1 : decide ((56320 : Int) ≤ (m : Int)) = true := by simp; omega
            have c2 : decide ((m : Int) ≤ 57343) = false := by simp; omega
            clear g4
            go_wp2_with fail
            refine (must_no' _ _ _ (by simp)).mono ?_
            rintro e w4 ⟨rfl, rfl⟩
            go_wp2
            exact ⟨rfl, Qres.no HQ3 (by decide) HE6.out⟩
        · obtain ⟨h1, h2, h3⟩ := HN.out
          obtain ⟨v, hv⟩ : ∃ v : Nat, v = 65536 + (n - 55296) * 1024 + m - 56320 := ⟨_, rfl⟩
          have HQ3 : Hid (q = ⟨Utf.enc v, 12, 0⟩) := by unfold Hid; rw [HQ2.out, if_neg (by simp), if_neg g4, hv]
          have c1 : decide ((56320 : Int) ≤ (m : Int)) = true := by simp; omega
          have c2 : decide ((m : Int) ≤ 57343) = true := by simp; omega
          have x1 : IntKind.i64.wrap ((n : Int) - 55296) = (n : Int) - 55296 := IntWalk.i64_in _ (by omega)
          have x2 : IntKind.i64.wrap (((n : Int) - 55296) * 1024) = ((n : Int) - 55296) * 1024 := IntWalk.i64_in _ (by omega)
          have x3 : IntKind.i64.wrap (65536 + ((n : Int) - 55296) * 1024) = 65536 + ((n : Int) - 55296) * 1024 := IntWalk.i64_in _ (by omega)
          have x4 : IntKind.i64.wrap (65536 + ((n : Int) - 55296) * 1024 + m) = 65536 + ((n : Int) - 55296) * 1024 + m := IntWalk.i64_in _ (by omega)
          have x5 : IntKind.i64.wrap (65536 + ((n : Int) - 55296) * 1024 + m - 56320) = (v : Int) := by
            rw [IntWalk.i64_in _ (by omega), hv]; omega
          have hput := utfput_any v w6 (forms_QE hF hR HE6.out)
          rw [encI_nat] at hput
          clear HQ2 h1 h2 h3 g4 hv HN
          go_wp2_with fail
          refine (must_yes' _ _ _ (by simp)).mono ?_
          rintro e w4 ⟨rfl, rfl⟩
          clear c1 c2
          go_wp2_with fail
          refine hput.mono ?_
          rintro e w7 ⟨rfl, hB4⟩
          go_wp2
          go_returns
          exact Qres.yes HQ3 (HE6.out.trans (QE.of_below hB4)) (by rw [HQ3.out]; exact HR6.out.below hB4)
      · have HQ3 : Hid (q = Qt.err e2) := by unfold Hid; rw [HQ2.out, if_pos g3]
        have hun := fun W hR => qunit_no b (i + 7) m e2 l W hR hl HM.out g3
        clear HQ2
        go_wp2_with fail
        refine (hun _ hR5).mono ?_
        rintro e w6 ⟨rfl, hE6⟩
        go_wp2
        exact ⟨rfl, Qres.no HQ3 g3 ((HE3.out.trans hE4).trans (hE5.trans hE6))⟩
    · have hx2 := fun W hR => qexactly_no b (i + 6) 117 l W hR hl (fun h he => g2 ⟨h, he⟩)
      have HQ3 : Hid (q = Qt.err (exErr l (i + 6))) := by
        unfold Hid exErr
        have := G1.out
        rw [HQ.out, if_neg (by omega), if_neg (by simp [this.2])]
        by_cases h : i + 6 < l.length
        · rw [if_neg (by omega), if_pos h, if_pos (fun he => g2 ⟨h, he⟩)]
        · rw [if_pos (by omega), if_neg h]
      have hne : exErr l (i + 6) ≠ 0 := by unfold exErr; split <;> omega
      generalize exErr l (i + 6) = ee at *
      clear g2 HQ
      go_wp2_with fail
      refine (hx2 _ hR4).mono ?_
      rintro e w6 ⟨rfl, hE6⟩
      go_wp2
      exact ⟨rfl, Qres.no HQ3 hne ((HE3.out.trans hE4).trans hE6)⟩
  · have hx1 := fun W hR => qexactly_no b (i + 5) 92 l W hR hl (fun h he => g1 ⟨h, he⟩)
    have HQ3 : Hid (q = Qt.err (exErr l (i + 5))) := by
      unfold Hid exErr
      rw [HQ.out]
      by_cases h : i + 5 < l.length
      · rw [if_neg (by omega), if_pos h, if_pos (fun he => g1 ⟨h, he⟩)]
      · rw [if_pos (by omega), if_neg h]
    have hne : exErr l (i + 5) ≠ 0 := by unfold exErr; split <;> omega
    generalize exErr l (i + 5) = ee at *
    clear g1 HQ
    go_wp2_with fail
    refine (hx1 _ hR3).mono ?_
    rintro e w6 ⟨rfl, hE6⟩
    go_wp2
    exact ⟨rfl, Qres.no HQ3 hne (HE3.out.trans hE6)⟩
end Go.Proofs.YthabfgpncebigaaDoor

/- quote: escape. -/
namespace Go.Proofs.YthabfgpncebigaaDoor
open Go.RowKit

set_option maxHeartbeats 4000000 in
set_option maxRecDepth 1000000 in
theorem qescape_coded (b i : Nat) (l : List UInt8) (w : World) (hR : Qrd b l i w) (hF : Forms w) (hl : l.length ≤ 1000000000) (hlt : i < l.length) (hc : Qt.bt l i = 117)
    (q : Qt.Pt) (hq : q = Qt.coded (l.drop (i + 1))) :
    Calls Tryd.prog 71 #[.pointer (some ⟨b, 0, none⟩)] w (Qres b l w q (i + q.n - 1)) := by
  unfold Qt.coded at hq
  rw [List.drop_drop, show i + 1 + 4 = i + 5 by omega] at hq
  obtain ⟨n, e1, hne⟩ : ∃ n e, Qt.unitF 4 0 (l.drop (i + 1)) = (n, e) := ⟨_, _, rfl⟩
  rw [hne] at hq
  simp only at hq
  have hby := qbyte_ok b i l w hR hlt hl
  rw [hc] at hby
  have hsg := fun W => sgn_no 117 W (by omega) (by decide)
  by_cases h0 : e1 = 0
  · subst h0
    rw [if_neg (by simp)] at hq
    have hun := fun W hR => qunit_ok b (i + 1) n l W hR hl hne
    by_cases h1 : 56320 ≤ n ∧ n ≤ 57343
    · rw [if_pos h1] at hq
      have HQ2 := Lib.hid hq
      have c1 : decide ((n : Int) < 56320) = false := by simp; omega
      have c2 : decide ((57343 : Int) < (n : Int)) = false := by simp; omega
      clear hq h1 hne hc
      go_enter Tryd.func71, Tryd.ntmps71
      go_wp2_with fail
      refine hby.mono ?_
      rintro e w2 ⟨rfl, hR2, hE2⟩
      go_wp2_with fail
      refine (hsg _).mono ?_
      rintro e w3 ⟨rfl, rfl⟩
      go_wp2_with (first | (go_at_call 68; refine (must_yes _ _).mono ?_; rintro e w2 ⟨rfl, rfl⟩))
      refine (hun _ hR2).mono ?_
      rintro e w3 ⟨rfl, hR3, hE3⟩
      have HE3 := Lib.hid (hE2.trans hE3)
      clear hE2 hE3 hR2 hR3 hun hby hsg
      go_wp2_with fail
      refine (must_no' _ _ _ (by simp)).mono ?_
      rintro e w4 ⟨rfl, rfl⟩
      go_wp2
      exact ⟨rfl, Qres.no HQ2 (by decide) HE3.out⟩
    · rw [if_neg h1] at hq
      by_cases h2 : n < 55296 ∨ 57343 < n
      · rw [if_pos h2] at hq
        have HQ2 := Lib.hid hq
        have HH : Hid ((decide ((n : Int) < 56320) = true ∧ decide ((55296 : Int) ≤ (n : Int)) = false) ∨ (decide ((n : Int) < 56320) = false ∧ decide ((57343 : Int) < (n : Int)) = true ∧ decide ((55296 : Int) ≤ (n : Int)) = true)) := by
          unfold Hid; simp; omega
        clear hq h1 h2 hne hc
        go_enter Tryd.func71, Tryd.ntmps71
        go_wp2_with fail
        refine hby.mono ?_
        rintro e w2 ⟨rfl, hR2, hE2⟩
        go_wp2_with fail
        refine (hsg _).mono ?_
        rintro e w3 ⟨rfl, rfl⟩
        go_wp2_with (first | (go_at_call 68; refine (must_yes _ _).mono ?_; rintro e w2 ⟨rfl, rfl⟩))
        refine (hun _ hR2).mono ?_
        rintro e w3 ⟨rfl, hR3, hE3⟩
        have HE3 := Lib.hid (hE2.trans hE3)
        have HR3 := Lib.hid hR3
        have hput := utfput_any n w3 (forms_QE hF hR HE3.out)
        rw [encI_nat] at hput
        clear hE2 hE3 hR2 hR3 hun hby hsg
        rcases HH.out with ⟨c1, c2⟩ | ⟨c1, c2, c3⟩
        · clear HH
          go_wp2_with fail
          refine (must_yes' _ _ _ (by simp)).mono ?_
          rintro e w4 ⟨rfl, rfl⟩
          go_wp2_with fail
          refine hput.mono ?_
          rintro e w4 ⟨rfl, hB4⟩
          go_wp2
          go_returns
          exact Qres.yes HQ2 (HE3.out.trans (QE.of_below hB4)) (by rw [HQ2.out]; exact HR3.out.below hB4)
        · clear HH
          go_wp2_with fail
          refine (must_yes' _ _ _ (by simp)).mono ?_
          rintro e w4 ⟨rfl, rfl⟩
          go_wp2_with fail
          refine hput.mono ?_
          rintro e w4 ⟨rfl, hB4⟩
          go_wp2
          go_returns
          exact Qres.yes HQ2 (HE3.out.trans (QE.of_below hB4)) (by rw [HQ2.out]; exact HR3.out.below hB4)
      · rw [if_neg h2] at hq
        exact qescape_two b i n l w hR hF hl hlt hc hne (by omega) (by omega) q hq
  · rw [if_pos h0] at hq
    have HQ2 := Lib.hid hq
    have hun := fun W hR => qunit_no b (i + 1) n e1 l W hR hl hne h0
    clear hq hne hc
    go_enter Tryd.func71, Tryd.ntmps71
    go_wp2_with fail
    refine hby.mono ?_
    rintro e w2 ⟨rfl, hR2, hE2⟩
    go_wp2_with fail
    refine (hsg _).mono ?_
    rintro e w3 ⟨rfl, rfl⟩
    go_wp2_with (first | (go_at_call 68; refine (must_yes _ _).mono ?_; rintro e w2 ⟨rfl, rfl⟩))
    refine (hun _ hR2).mono ?_
    rintro e w3 ⟨rfl, hE3⟩
    go_wp2
    exact ⟨rfl, Qres.no HQ2 h0 (hE2.trans hE3)⟩

set_option maxHeartbeats 4000000 in
set_option maxRecDepth 1000000 in
theorem qescape_any (b i : Nat) (l : List UInt8) (w : World) (hR : Qrd b l i w) (hF : Forms w) (hl : l.length ≤ 1000000000) :
    Calls Tryd.prog 71 #[.pointer (some ⟨b, 0, none⟩)] w (Qres b l w (Qt.esc (l.drop i)) (i + (Qt.esc (l.drop i)).n - 1)) := by
  obtain ⟨q, hq⟩ : ∃ q, q = Qt.esc (l.drop i) := ⟨_, rfl⟩
  rw [← hq]
  rw [Qt.esc_at] at hq
  by_cases hA : i < l.length ∧ Qt.bt l i = 117
  · rw [if_neg (by omega), hA.2, if_neg (by decide), if_pos rfl] at hq
    exact qescape_coded b i l w hR hF hl hA.1 hA.2 q hq
  go_enter Tryd.func71, Tryd.ntmps71
  by_cases hlt : l.length ≤ i
  · rw [if_pos hlt] at hq
    have HQ := Lib.hid hq
    clear hq
    go_wp2_with fail
    refine (qbyte_no b i l w hR (by omega)).mono ?_
    rintro e w2 ⟨rfl, hE2⟩
    go_wp2
    exact ⟨rfl, Qres.no HQ (by decide) hE2⟩
  · rw [if_neg hlt] at hq
    have hby := qbyte_ok b i l w hR (by omega) hl
    have hc : Qt.bt l i < 256 := (l.getD i 0).toNat_lt
    obtain ⟨c, hcc⟩ : ∃ c, Qt.bt l i = c := ⟨_, rfl⟩
    have HC := Lib.hid hcc
    rw [hcc] at hby hc hq
    clear hcc
    by_cases hm : Qt.mean c ≠ 0
    · rw [if_pos hm] at hq
      obtain ⟨k, hk, hkm, hsg⟩ := sgn_yes c hc hm
      have HQ := Lib.hid hq
      have hw1 : IntKind.i64.wrap ((k : Int) + 1) = (k : Int) + 1 := IntWalk.i64_in _ (by omega)
      have hsl : ∀ W : World, (Instr.slice 9 (.string (ByteArray.mk #[34, 92, 47, 8, 12, 10, 13, 9])) (some (.int .i64 (k : Int))) (some (.int .i64 ((k : Int) + 1))) none).run Tryd.prog W = .ok (.string (str [UInt8.ofNat (Qt.mean c)])) W := fun W => by
        have h1 := run_slice_str W 9 meansL .i64 .i64 (k : Int) ((k : Int) + 1) Tryd.underlying9 ⟨by omega, by omega, by show (k : Int) + 1 ≤ 8; omega⟩
        rw [show ((k : Int) + 1).toNat - (k : Int).toNat = 1 by omega, Int.toNat_natCast, hkm] at h1
        exact h1
      clear hq hkm
      go_wp2_with fail
      refine hby.mono ?_
      rintro e w2 ⟨rfl, hR2, hE2⟩
      go_wp2_with fail
      refine (hsg _).mono ?_
      rintro e w3 ⟨rfl, rfl⟩
      go_wp2
      go_returns
      exact Qres.yes HQ hE2 (by rw [HQ.out]; exact hR2)
    · rw [if_neg hm] at hq
      have hsg := fun W => sgn_no c W hc (by simpa using hm)
      by_cases h117 : c = 117
      · exact absurd ⟨by omega, HC.out.trans h117⟩ hA
      · rw [if_neg h117] at hq
        have HQ := Lib.hid hq
        have hcb : ((c : Int) == 117) = false := by simp; omega
        clear hq hm h117
        go_wp2_with fail
        refine hby.mono ?_
        rintro e w2 ⟨rfl, hR2, hE2⟩
        go_wp2_with fail
        refine (hsg _).mono ?_
        rintro e w3 ⟨rfl, rfl⟩
        go_wp2_with (first | (go_at_call 68; refine (must_no _ _).mono ?_; rintro e w2 ⟨rfl, rfl⟩))
        exact ⟨rfl, Qres.no HQ (by decide) hE2⟩
end Go.Proofs.YthabfgpncebigaaDoor

/- quote: plain. -/
namespace Go.Proofs.YthabfgpncebigaaDoor
open Go.RowKit

attribute [local go_sem] Oper.semAt_some

/-- What plain reads. -/
def Qt.plainP (l : List UInt8) (i : Nat) : Qt.Pt :=
  if Qt.bt l i < 32 then Qt.err 3 else if (Utf.next (l.drop i)).2 = 0 then Qt.err 7 else ⟨(l.drop i).take (Utf.next (l.drop i)).2, (Utf.next (l.drop i)).2, 0⟩

theorem Qrd.ext {T : Nat → Prop} {b i : Nat} {l : List UInt8} {A B : World} (h : Qrd b l i A) (he : Ext T A B) (hT : ¬ T b) : Qrd b l i B := (he.block b h.lt hT).trans h
theorem Qrd.putObj {b i : Nat} {l : List UInt8} {A : World} {n : Nat} {o o' : Obj} (h : Qrd b l i A) (hl : A.heap[n]? = some o) (ho : o.isCells = false) : Qrd b l i (A.putObj n o') := by
  have hne : b ≠ n := by
    rintro rfl
    rw [show A.heap[b]? = _ from h] at hl
    cases hl; cases ho
  exact (World.putObj_heap_other hne).trans h

set_option maxHeartbeats 1000000 in
set_option maxRecDepth 100000 in
theorem qplain_low (b i : Nat) (l : List UInt8) (w : World) (hR : Qrd b l i w) (hi : i < l.length) (hc : Qt.bt l i < 32) :
    Calls Tryd.prog 72 #[.pointer (some ⟨b, 0, none⟩)] w fun e w' => e = dies 3 ∧ QE b w w' := by
  have hR2 := hR.below ((Below.refl _ w).alloc (Nat.le_refl _) (.cells #[.pointer (some ⟨b, 0, none⟩)] 88))
  have bx := Boxed.new w 88 (.pointer (some ⟨b, 0, none⟩))
  have c0 := hR2.cell0
  have c1 := hR2.cell1
  have c2 := bx.cell
  have hix : nth l i = (Qt.bt l i : Int) := rfl
  have e1 : 0 ≤ (i : Int) ∧ (i : Int) < l.length := by omega
  have hd : decide ((32 : Int) ≤ (Qt.bt l i : Int)) = false := by simp; omega
  have hB : QE b w (w.alloc (.cells #[.pointer (some ⟨b, 0, none⟩)] 88)) := .of_below ((Below.refl _ w).alloc (Nat.le_refl _) _)
  generalize hW : w.alloc (.cells #[.pointer (some ⟨b, 0, none⟩)] 88) = W at *
  go_enter Tryd.func72, Tryd.ntmps72
  go_wp2
  clear hW
  go_still_tail 10, (by kernel_rfl)
  go_wp2_with fail
  refine (must_no' _ _ _ (by simp)).mono ?_
  rintro e w4 ⟨rfl, rfl⟩
  go_wp2
  exact ⟨rfl, rfl, hB.drew⟩

/-- What is between two rounds. -/
def PlI (b i : Nat) (l : List UInt8) (w : World) (pre : List (Nat × Nat)) (W : World) : Prop := pre = [] ∧ Qrd b l i W ∧ QE b w W ∧ Boxed W w.heap.size 88 (.pointer (some ⟨b, 0, none⟩))
def PlX (b i : Nat) (l : List UInt8) (w : World) (c : Code) (pre : List (Nat × Nat)) (W : World) : Prop := c = .exit 0 ∧ ∃ x, pre = [x] ∧ Qrd b l (i + (encI x.2).length) W ∧ QE b w W ∧ Boxed W w.heap.size 88 (.pointer (some ⟨b, 0, none⟩))

theorem QE_putObj {b : Nat} {w A : World} {n : Nat} {o : Obj} (h : QE b w A) (hn : w.heap.size ≤ n) : QE b w (A.putObj n o) :=
  ⟨h.os, h.tape, h.output, by simpa using h.size, fun k hk hb => (World.putObj_heap_other (by omega)).trans (h.block k hk hb)⟩
set_option maxHeartbeats 2000000 in
set_option maxRecDepth 100000 in
theorem qplain_go (b i : Nat) (l : List UInt8) (w : World) (hR : Qrd b l i w) (hF : Forms w) (hi : i < l.length) (hl : l.length ≤ 1000000000) (hc : ¬ Qt.bt l i < 32) (q : Qt.Pt)
    (hq : q = if (Utf.next (l.drop i)).2 = 0 then Qt.err 7 else ⟨(l.drop i).take (Utf.next (l.drop i)).2, (Utf.next (l.drop i)).2, 0⟩) :
    Calls Tryd.prog 72 #[.pointer (some ⟨b, 0, none⟩)] w (Qres b l w q (i + q.n)) := by
  refine (callsIn_wide (n := 5)).1 ?_
  refine callsIn_of_wp_marks Tryd.func72 rfl trivial ?_ rfl
  simp only [Tryd.ntmps72, List.size_toArray, List.length_cons, List.length_nil, Nat.reduceAdd, Nat.reduceSub, Array.replicate_succ, Array.replicate_zero, List.push_toArray, List.append_toArray, List.nil_append, List.cons_append]
  refine wpIn_wide.2 ?_
  have HQ := Lib.hid hq
  clear hq
  have hR2 := hR.below ((Below.refl _ w).alloc (Nat.le_refl _) (.cells #[.pointer (some ⟨b, 0, none⟩)] 88))
  have bx := Boxed.new w 88 (.pointer (some ⟨b, 0, none⟩))
  have c0 := hR2.cell0
  have c1 := hR2.cell1
  have c2 := bx.cell
  have hix : nth l i = (Qt.bt l i : Int) := rfl
  have e0 : (0 : Int) ≤ (i : Int) ∧ (i : Int) ≤ (l.length : Int) := by omega
  have e1 : 0 ≤ (i : Int) ∧ (i : Int) < l.length := by omega
  have hd : decide ((32 : Int) ≤ (Qt.bt l i : Int)) = true := by simp; omega
  have hB : QE b w (w.alloc (.cells #[.pointer (some ⟨b, 0, none⟩)] 88)) := .of_below ((Below.refl _ w).alloc (Nat.le_refl _) _)
  generalize hW : w.alloc (.cells #[.pointer (some ⟨b, 0, none⟩)] 88) = W at *
  go_wp2
  clear hW
  go_still_tail 10, (by kernel_rfl)
  go_wp2_with fail
  refine (must_yes' _ _ _ (by simp)).mono ?_
  rintro e w4 ⟨rfl, rfl⟩
  have hD := hR2.drew
  clear hix hd
  go_wp2_with fail
  refine (uallfn_any _ _).mono ?_
  rintro e w3 ⟨rfl, rfl⟩
  go_wp2
  have hD1 := hD.below ((Below.refl _ W.drew).alloc (Nat.le_refl _) (.cells #[.string (str (l.drop i))] 9))
  have hFW := forms_QE hF hR hB
  have hF1 := (hFW.alloc (.cells #[.string (str (l.drop i))] 9)).drew
  have hB1 : QE b w (W.alloc (.cells #[.string (str (l.drop i))] 9)).drew := (hB.trans (.of_below ((Below.refl _ W).alloc (Nat.le_refl _) _))).drew
  have bx1 : Boxed (W.alloc (.cells #[.string (str (l.drop i))] 9)).drew w.heap.size 88 (.pointer (some ⟨b, 0, none⟩)) := bx.alloc _
  have bs1 : Boxed (W.alloc (.cells #[.string (str (l.drop i))] 9)).drew W.heap.size 9 (.string (str (l.drop i))) := Boxed.new W _ _
  have hs1 : W.heap.size < (W.alloc (.cells #[.string (str (l.drop i))] 9)).drew.heap.size := by simp
  have hD2 : Qrd b l i (W.alloc (.cells #[.string (str (l.drop i))] 9)).drew := hD1
  generalize (W.alloc (.cells #[.string (str (l.drop i))] 9)).drew = W0 at hF1 hB1 bx1 bs1 hs1 hD2 ⊢
  clear hD1 hD c0 c1 c2 hFW
  have hne : 3 ≠ b := by
    rintro rfl
    have h2 := hF.2 2 (by omega)
    have := hR.cell0
    have h3 := hF.2 0 (by omega)
    rw [this] at h3; cases h3
  refine wpIn_wide.1 (wpIn_rangeFunc_T (n := 5) rfl (by omega) (gf := 97) (lb := #[.pointer (some ⟨W.heap.size, 0, none⟩)]) rfl trivial (enters_of Tryd.func97 (by kernel_rfl) rfl)
    (uall_seq 4 W.heap.size (l.drop i) (fun _ => False) UK W0 (by omega) bs1 hF1 (by simp; omega) (fun k hk => hk)) (fun k hk => hk.elim) (fun k hk => by rw [show k = _ from hk]; exact hF1.1) (fun _ => rfl)
    (PlI b i l w) (PlX b i l w)
    (fun s A B h he => ⟨h.1, h.2.1.ext he (fun h => h), h.2.2.1.trans ⟨he.os, he.tape, he.output, he.size, fun k hk _ => he.block k hk (fun h => h)⟩, boxed_ext h.2.2.2 he (fun h => h)⟩)
    (fun cc s A B h he => by obtain ⟨h1, x, h2, h3, h4, h5⟩ := h; exact ⟨h1, x, h2, h3.ext he (fun h => h), h4.trans ⟨he.os, he.tape, he.output, he.size, fun k hk _ => he.block k hk (fun h => h)⟩, boxed_ext h5 he (fun h => h)⟩)
    (fun s A lb o o' h hlb ho hc => ⟨h.1, h.2.1.putObj ho hc, QE_putObj h.2.2.1 (by have := hB1.size; omega), boxed_putObj h.2.2.2 ho hc⟩)
    (fun cc s A lb o o' h hlb ho hc => by obtain ⟨h1, x, h2, h3, h4, h5⟩ := h; exact ⟨h1, x, h2, h3.putObj ho hc, QE_putObj h4 (by have := hB1.size; omega), boxed_putObj h5 ho hc⟩)
    ⟨rfl, hD2, hB1, bx1⟩
    (fun x => { tmps := #[Value.pointer (some { block := b, off := 0 }), Value.pointer (some { block := w.heap.size, off := 0 }),
          Value.string { data := #[] }, Value.int IntKind.i64 ↑i, undef, .int .i64 x.2, undef, undef,
          Value.pointer (some { block := b, off := 0 }), Value.pointer (some { block := b, off := 0 }),
          Value.pointer (some { block := b, off := 0 }), Value.string (str l),
          Value.pointer (some { block := b, off := 0 }), Value.pointer (some { block := b, off := 0 }),
          Value.pointer (some { block := b, off := 1 }), Value.int IntKind.i64 ↑i, Value.int IntKind.u8 ↑(Qt.bt l i),
          Value.bool true, Value.tuple #[], Value.pointer (some { block := b, off := 0 }),
          Value.pointer (some { block := b, off := 0 }), Value.pointer (some { block := b, off := 1 }),
          Value.int IntKind.i64 ↑i, Value.pointer (some { block := b, off := 0 }),
          Value.pointer (some { block := b, off := 0 }), Value.pointer (some { block := b, off := 0 }),
          Value.string (str l), Value.int IntKind.i64 ↑i, Value.string (str (List.drop i l)),
          Value.func (Fn.func 97) #[] #[Value.pointer (some { block := W.heap.size, off := 0 })], .int .i64 x.1, .int .i64 x.2,
          undef, undef, undef, undef, undef, undef, undef, undef, undef, undef, undef, undef, undef, undef, undef, undef, undef, undef, undef, undef, undef, undef, undef, undef, undef, undef, undef, undef, undef, undef, undef], defers := [] }) ?assign ?body ?done ?stop)
  case assign =>
    intro lp x W K' hK'
    simp only [encS]
    gi_wp2
    exact hK'
  case body =>
    rintro lp pre x W2 ⟨rfl, hRW, hBW, hxW⟩
    have hFx := forms_QE hF hR hBW
    have hput := utfput_any x.2 W2 hFx
    have hen : ((encI x.2).length : Int) ≤ 4 := by have := Utf.enc_length_le x.2; rw [encI_nat]; omega
    have hcx := hxW.cell
    have hw : IntKind.i64.wrap ((i : Int) + ((encI x.2).length : Int)) = ((i + (encI x.2).length : Nat) : Int) := by rw [IntWalk.i64_in _ (by omega)]; omega
    gi_wp2_with (refine ⟨trivial, ?_⟩; gi_at_call 94; refine (show CallsIn (Fence.wide.inRound lp) _ _ _ _ _ _ from callsIn_wide.2 hput).mono ?_; rintro e w3 ⟨rfl, hB3⟩; have hR3 := hRW.below hB3; have g0 := hR3.cell1; have g1 := hR3.frozen 1; have hx3 : Boxed w3 w.heap.size 88 (.pointer (some ⟨b, 0, none⟩)) := (hB3.block _ hxW.lt).trans hxW; have g2 := hx3.cell)
    have hbx : w.heap.size ≠ b := fun e => by have := hR.lt; omega
    have hE : Ext (fun k => k = b) W2 (w3.setCell ⟨b, 1, none⟩ (.int .i64 ((i + (encI x.2).length : Nat) : Int))) := Ext.setCell (T := fun k => k = b) (p := ⟨b, 1, none⟩) (Ext.of_below hB3) rfl _
    refine ⟨RKeeps.of_ext hE (fun k hk => by rw [show k = _ from hk]; exact ⟨hFx.1, hne⟩) (fun k hk o ho => by subst hk; unfold Qrd at hRW; rw [hRW] at ho; cases ho; exact .inl rfl), rfl, x, rfl, hR3.set _, hBW.trans hE, (hE.block _ hxW.lt hbx).trans hxW⟩
  case done =>
    rintro D xs W2 hDs hxs ⟨h0, hRW, hBW, hxW⟩ hd
    have hz : (Utf.next (l.drop i)).2 = 0 := by
      refine Decidable.byContradiction fun hn => ?_
      rw [h0] at hxs
      unfold Utf.all at hxs
      rw [Utf.scan_ok hn] at hxs
      cases hxs
    have HQ2 : Hid (q = Qt.err 7) := by unfold Hid; rw [HQ.out, if_pos hz]
    have g0 := hRW.cell1
    have g2 := hxW.cell
    clear hxs h0 hz HQ hF1 hD2 bx1 bs1 hB1
    go_wp2_with fail
    refine (must_no' _ _ _ (by simp)).mono ?_
    rintro e w4 ⟨rfl, rfl⟩
    go_wp2
    refine ⟨by simp, .inl ⟨_, _, rfl, run_takeDeferred hd, ?_⟩⟩
    exact Qres.no HQ2 (by decide) (QE_putObj hBW (by have := hB.size; omega))
  case stop =>
    rintro D cc pre W2 hDs hSp ⟨rfl, x, rfl, hRW, hBW, hxW⟩ hd
    have hnz : (Utf.next (l.drop i)).2 ≠ 0 := by
      intro hz
      unfold Utf.all at hSp
      rw [Utf.scan_no hz] at hSp
      exact absurd (List.prefix_nil.1 hSp) (by simp)
    obtain ⟨c, n, hcn⟩ : ∃ c n, Utf.next (l.drop i) = (c, n) := ⟨_, _, rfl⟩
    obtain ⟨hsc, htk, hlen, hle⟩ := Utf.next_some hcn (by rw [hcn] at hnz; exact hnz)
    have hx2 : encI x.2 = Utf.enc c := by
      unfold Utf.all at hSp
      rw [Utf.scan_ok hnz, hcn] at hSp
      obtain ⟨t, ht⟩ := hSp
      cases ht
      exact encI_nat _
    rw [hx2, ← hlen] at hRW
    have HQ2 : Hid (q = ⟨(l.drop i).take n, n, 0⟩) := by unfold Hid; rw [HQ.out, if_neg hnz, hcn]
    have hn0 : 0 < n := by rw [hcn] at hnz; exact Nat.pos_of_ne_zero hnz
    have hle2 : i + n ≤ l.length := by rw [List.length_drop] at hle; omega
    have g0 := hRW.cell0
    have g1 := hRW.cell1
    have g2 := hxW.cell
    have hsum : ((i + n : Nat) : Int) = (i : Int) + n := by omega
    rw [hsum] at g1
    have hgt : decide ((i : Int) < (i : Int) + n) = true := by simp; omega
    have e3 : 0 ≤ (i : Int) ∧ (i : Int) ≤ (i : Int) + n ∧ (i : Int) + n ≤ l.length := by omega
    have e4 : ((i : Int) + n).toNat = i + n := by omega
    have e5 : i + n - i = n := by omega
    have hsl : ∀ W : World, (Instr.slice 9 (.string (str l)) (some (.int .i64 (i : Int))) (some (.int .i64 ((i : Int) + n))) none).run Tryd.prog W = .ok (.string (str ((l.drop i).take n))) W := fun W => by
      have h1 := run_slice_str W 9 l .i64 .i64 (i : Int) ((i : Int) + n) Tryd.underlying9 e3
      rw [e4, Int.toNat_natCast, e5] at h1
      exact h1
    clear hSp hnz hcn hsc htk hlen hle hx2 HQ hF1 hD2 bx1 bs1 hB1 hsum e4 e5 e3
    refine wpIn_wide.2 ?_
    go_wp2_with fail
    refine (must_yes' _ _ _ (by first | rfl | (simp; done) | (simp; omega))).mono ?_
    rintro e w4 ⟨rfl, rfl⟩
    clear hgt
    go_wp2
    go_quiet (fail)
    go_wp2
    refine ⟨by simp, .inl ⟨_, _, rfl, run_takeDeferred (show (World.drewN W2 _).heap[D]? = _ from hd), ?_⟩⟩
    refine ⟨_, results_tmp rfl _ _ _, ?_⟩
    exact Qres.yes HQ2 (QE_putObj (hBW.trans (.of_below (below_drewN_self _ _ _))) (by have := hB.size; omega)) (by
      rw [HQ2.out]
      exact (hRW.below (below_drewN_self _ _ _)).putObj hd rfl)

theorem qplain_any (b i : Nat) (l : List UInt8) (w : World) (hR : Qrd b l i w) (hF : Forms w) (hi : i < l.length) (hl : l.length ≤ 1000000000) :
    Calls Tryd.prog 72 #[.pointer (some ⟨b, 0, none⟩)] w (Qres b l w (Qt.plainP l i) (i + (Qt.plainP l i).n)) := by
  by_cases hc : Qt.bt l i < 32
  · refine (qplain_low b i l w hR hi hc).mono ?_
    rintro e w' ⟨rfl, hE⟩
    have hq : Qt.plainP l i = Qt.err 3 := by unfold Qt.plainP; rw [if_pos hc]
    rw [hq]
    exact ⟨hE, .inr ⟨by decide, rfl⟩⟩
  · exact qplain_go b i l w hR hF hi hl hc _ (by unfold Qt.plainP; rw [if_neg hc])
end Go.Proofs.YthabfgpncebigaaDoor

/- quote: Scan's deferred closure. -/
namespace Go.Proofs.YthabfgpncebigaaDoor
open Go.RowKit

set_option maxHeartbeats 1000000 in
set_option maxRecDepth 100000 in
theorem scanf_panicking (b0 b1 b2 e : Nat) (s : ByteArray) (n m : Int) (w : World) (older : List PanicEntry) (h01 : b0 < b1) (h12 : b1 < b2)
    (h0 : Boxed w b0 9 (.string s)) (h1 : Boxed w b1 3 (.int .i64 n)) (h2 : Boxed w b2 24 (.int .i64 m)) :
    CallsD Tryd.prog 66 #[.pointer (some ⟨b0, 0, none⟩), .pointer (some ⟨b1, 0, none⟩), .pointer (some ⟨b2, 0, none⟩)] (.panicking ({ v := .iface 24 (.int .i64 e), recovered := false } :: older)) w fun r u' w' =>
      r = .returned (.tuple #[]) ∧ u' = .panicking ({ v := .iface 24 (.int .i64 e), recovered := true } :: older) ∧ Ext (fun k => k = b0 ∨ k = b1 ∨ k = b2) w w' ∧
        Boxed w' b0 9 (.string ⟨#[]⟩) ∧ Boxed w' b1 3 (.int .i64 0) ∧ Boxed w' b2 24 (.int .i64 e) := by
  refine callsD_of_wpS Tryd.func66 rfl fun c₀ cs hu => ?_
  apply wpS_seq
  apply wpS_region
  simp [wpOpsS, go_sem, recoverD, hu, Tryd.ntmps66, Exit.thenS]
  refine wpS_of_wp ?_
  have c0 := h0.cell
  have c1 := h1.cell
  have c2 := h2.cell
  have f0 := h0.frozen
  have f1 := h1.frozen
  have f2 := h2.frozen
  have n01 : ¬ b0 = b1 := by omega
  have n12 : ¬ b1 = b2 := by omega
  have n02 : ¬ b0 = b2 := by omega
  have n10 : ¬ b1 = b0 := by omega
  have n21 : ¬ b2 = b1 := by omega
  have n20 : ¬ b2 = b0 := by omega
  have hta : ∀ W : World, (Instr.typeAssert (.iface 24 (.int .i64 e)) 20 24 false).run Tryd.prog W = .ok (.int .i64 e) W := fun W => by kernel_rfl
  show Code.wp Tryd.prog _ _ { tmps := #[.pointer (some ⟨b0, 0, none⟩), .pointer (some ⟨b1, 0, none⟩), .pointer (some ⟨b2, 0, none⟩), .iface 24 (.int .i64 e), .iface 24 (.int .i64 e), undef, undef, undef, undef], defers := [] } w
  go_wp2
  go_region
  refine ⟨rfl, _, rfl, _, results_none rfl _ _ _, rfl, rfl, ?_, ?_, ?_, ?_⟩
  · exact ((Ext.setCell (T := fun k => k = b0 ∨ k = b1 ∨ k = b2) (p := ⟨b2, 0, none⟩) (Ext.setCell (T := fun k => k = b0 ∨ k = b1 ∨ k = b2) (p := ⟨b1, 0, none⟩) (Ext.setCell (T := fun k => k = b0 ∨ k = b1 ∨ k = b2) (p := ⟨b0, 0, none⟩) (Ext.refl _ w) (.inl rfl) _) (.inr (.inl rfl)) _) (.inr (.inr rfl)) _).drew)
  · exact (((h0.set _).other n01 _).other n02 _)
  · exact (((h1.other n10 _).set _).other n12 _)
  · exact (((h2.other n20 _).other n21 _).set _)

set_option maxHeartbeats 1000000 in
set_option maxRecDepth 100000 in
theorem scanf_idle (a0 a1 a2 : Value) (w : World) :
    CallsD Tryd.prog 66 #[a0, a1, a2] .returning w fun r u' w' => r = .returned (.tuple #[]) ∧ u' = .returning ∧ w' = w := by
  refine callsD_of_wpS Tryd.func66 rfl fun c₀ cs hu => ?_
  apply wpS_seq
  apply wpS_region
  simp [wpOpsS, go_sem, recoverD, hu, Tryd.ntmps66, Exit.thenS]
  refine wpS_of_wp ?_
  show Code.wp Tryd.prog _ _ { tmps := #[a0, a1, a2, .nilIface, .nilIface, undef, undef, undef, undef], defers := [] } w
  go_wp2
  cases c₀
  simp_all [bodyPostS, results, Tryd.results66]

/-- A builder stays through what changes older blocks alone. -/
theorem Bld.ext {T : Nat → Prop} {B b : Nat} {l : List UInt8} {X Y : World} (h : Bld B b l X) (he : Ext T X Y) (hT : ∀ k, T k → k < B) : Bld B b l Y := by
  have one : ∀ p, Lib.BuilderAt 95 5 B b p (bval l) X → Lib.BuilderAt 95 5 B b p (bval l) Y := fun p h1 => by
    have hlt := h1.lt
    obtain ⟨hB, v, hb, hown, hne⟩ := h1
    exact ⟨hB, v, by rw [he.block b hlt (fun ht => by have := hT b ht; omega)]; exact hb, ownsRow_ext hown he (fun g hg ht => by have := hT g ht; have := (hown.lt g hg).1; omega), hne⟩
  rcases h with h | h
  · exact .inl (one _ h)
  · exact .inr (one _ h)

/-- The blocks of Scan: its three results, its reader. -/
structure ScanW (w : World) (l : List UInt8) (i : Nat) (W : World) : Prop where
  below : Below w.heap.size w W
  s : Boxed W w.heap.size 9 (.string ⟨#[]⟩)
  n : Boxed W (w.heap.size + 1) 3 (.int .i64 0)
  e : Boxed W (w.heap.size + 1 + 1) 24 (.int .i64 0)
  r : Qrd (w.heap.size + 1 + 1 + 1) l i W

/-- What Scan hands back. -/
def scanV (q : Qt.Pt) : Value := .tuple #[.string (str q.s), .int .i64 q.n, .int .i64 q.e]

/-- Scan's own slots. -/
def ScanT (w : World) (tmps : Array Value) : Prop :=
  tmps[2]?.getD undef = .pointer (some ⟨w.heap.size, 0, none⟩) ∧ tmps[3]?.getD undef = .pointer (some ⟨w.heap.size + 1, 0, none⟩) ∧ tmps[4]?.getD undef = .pointer (some ⟨w.heap.size + 1 + 1, 0, none⟩)
theorem scan_results {w W : World} {tmps : Array Value} (ht : ScanT w tmps) {x y z : Value} (h0 : Boxed W w.heap.size 9 x) (h1 : Boxed W (w.heap.size + 1) 3 y) (h2 : Boxed W (w.heap.size + 1 + 1) 24 z) (hx : ∃ s, x = .string s) (hy : ∃ n, y = .int .i64 n) (hz : ∃ n, z = .int .i64 n) :
    (results Tryd.f48 tmps).run Tryd.prog W = .ok (.tuple #[x, y, z]) W := by
  obtain ⟨t2, t3, t4⟩ := ht
  have c0 := h0.cell
  have c1 := h1.cell
  have c2 := h2.cell
  obtain ⟨s, rfl⟩ := hx
  obtain ⟨n, rfl⟩ := hy
  obtain ⟨m, rfl⟩ := hz
  simp [results, Tryd.results48, t2, t3, t4, go_sem, c0, c1, c2]
/-- The deferred call that lies there. -/
abbrev scanD (w : World) : List Deferred := [{ target := .fn (.func 66) #[.pointer (some ⟨w.heap.size, 0, none⟩), .pointer (some ⟨w.heap.size + 1, 0, none⟩), .pointer (some ⟨w.heap.size + 1 + 1, 0, none⟩)], args := #[] }]
theorem scan_dies {w W : World} {e : Nat} {r : Qt.Pt} {tmps : Array Value} (hr : Hid (r = Qt.err e)) (hS : Below w.heap.size w W ∧ Boxed W w.heap.size 9 (.string ⟨#[]⟩) ∧ Boxed W (w.heap.size + 1) 3 (.int .i64 0) ∧ Boxed W (w.heap.size + 1 + 1) 24 (.int .i64 0)) (ht : ScanT w tmps) :
    bodyPostD Tryd.prog Tryd.f48 (fun e w' => e = .returned (scanV r) ∧ Below w.heap.size w w') (.panic [{ v := .iface 24 (.int .i64 e), recovered := false }]) { tmps, defers := scanD w } W := by
  refine leaves_cons (f := 66) (args := #[.pointer (some ⟨w.heap.size, 0, none⟩), .pointer (some ⟨w.heap.size + 1, 0, none⟩), .pointer (some ⟨w.heap.size + 1 + 1, 0, none⟩)]) (by simp) (by simp [go_sem]) ?_
  refine (scanf_panicking w.heap.size (w.heap.size + 1) (w.heap.size + 1 + 1) e _ _ _ W [] (by omega) (by omega) hS.2.1 hS.2.2.1 hS.2.2.2).mono ?_
  rintro q u' w'' ⟨rfl, rfl, hE, b0, b1, b2⟩
  refine ⟨_, scan_results ht b0 b1 b2 ⟨_, rfl⟩ ⟨_, rfl⟩ ⟨_, rfl⟩, ?_, hS.1.trans ⟨hE.os, hE.tape, hE.output, hE.size, fun k hk => hE.block k (by have := hS.1.size; omega) (by omega)⟩⟩
  rw [hr.out]; rfl
theorem scan_tells {w W : World} {s : List UInt8} {n e : Nat} {r : Qt.Pt} {tmps : Array Value} (hr : Hid (r = ⟨s, n, e⟩)) (hB : Below w.heap.size w W) (h0 : Boxed W w.heap.size 9 (.string (str s))) (h1 : Boxed W (w.heap.size + 1) 3 (.int .i64 n)) (h2 : Boxed W (w.heap.size + 1 + 1) 24 (.int .i64 e)) (ht : ScanT w tmps) :
    bodyPostD Tryd.prog Tryd.f48 (fun e w' => e = .returned (scanV r) ∧ Below w.heap.size w w') .ret { tmps, defers := scanD w } W := by
  refine leaves_cons (f := 66) (args := #[.pointer (some ⟨w.heap.size, 0, none⟩), .pointer (some ⟨w.heap.size + 1, 0, none⟩), .pointer (some ⟨w.heap.size + 1 + 1, 0, none⟩)]) (by simp) (by simp [go_sem]) ?_
  refine (scanf_idle _ _ _ W).mono ?_
  rintro q u' w'' ⟨rfl, rfl, rfl⟩
  refine ⟨_, scan_results ht h0 h1 h2 ⟨_, rfl⟩ ⟨_, rfl⟩ ⟨_, rfl⟩, ?_, hB⟩
  rw [hr.out]; rfl
theorem ScanW.ext {w W W' : World} {l : List UInt8} {i j : Nat} (h : ScanW w l i W) (hE : QE (w.heap.size + 1 + 1 + 1) W W') (hR : Qrd (w.heap.size + 1 + 1 + 1) l j W') : ScanW w l j W' :=
  ⟨h.below.trans ⟨hE.os, hE.tape, hE.output, hE.size, fun k hk => hE.block k (by have := h.below.size; omega) (by omega)⟩, boxed_ext h.s hE (by omega), boxed_ext h.n hE (by omega), boxed_ext h.e hE (by omega), hR⟩
theorem ScanW.below' {w W W' : World} {l : List UInt8} {i B : Nat} (h : ScanW w l i W) (hB : Below B W W') (hk : w.heap.size + 1 + 1 + 1 < B) : ScanW w l i W' :=
  ⟨h.below.trans (hB.mono (by omega)), (hB.block _ (by omega)).trans h.s, (hB.block _ (by omega)).trans h.n, (hB.block _ (by omega)).trans h.e, (hB.block _ (by omega)).trans h.r⟩
/-- All but the reader's place. -/
theorem ScanW.after {w W W' : World} {l : List UInt8} {i : Nat} (h : ScanW w l i W) (hE : QE (w.heap.size + 1 + 1 + 1) W W') :
    Below w.heap.size w W' ∧ Boxed W' w.heap.size 9 (.string ⟨#[]⟩) ∧ Boxed W' (w.heap.size + 1) 3 (.int .i64 0) ∧ Boxed W' (w.heap.size + 1 + 1) 24 (.int .i64 0) :=
  ⟨h.below.trans ⟨hE.os, hE.tape, hE.output, hE.size, fun k hk => hE.block k (by have := h.below.size; omega) (by omega)⟩, boxed_ext h.s hE (by omega), boxed_ext h.n hE (by omega), boxed_ext h.e hE (by omega)⟩
end Go.Proofs.YthabfgpncebigaaDoor

/- quote: Scan. -/
namespace Go.Proofs.YthabfgpncebigaaDoor
open Go.RowKit

/-- What is between two rounds of Scan. -/
structure ScanI (w : World) (l : List UInt8) (r : Qt.Pt) (bb i : Nat) (s : List UInt8) (W : World) : Prop where
  ws : ScanW w l i W
  bld : Bld bb bb s W
  le : i ≤ l.length
  sl : s.length ≤ 4 * i
  go : r = Qt.go (l.drop i) s i

theorem scanW_new (w : World) (l : List UInt8) : ScanW w l 0 ((((w.alloc (.cells #[.string ⟨#[]⟩] 9)).alloc (.cells #[.int .i64 0] 3)).alloc (.cells #[.int .i64 0] 24)).alloc (.cells #[.string (str l), .int .i64 0] 90)) := by
  refine ⟨?_, ?_, ?_, ?_, ?_⟩
  · exact ((((Below.refl _ w).alloc (Nat.le_refl _) _).alloc (by simp) _).alloc (by simp; omega) _).alloc (by simp; omega) _
  · exact (((Boxed.new w _ _).alloc _).alloc _).alloc _
  · have := ((Boxed.new (w.alloc (.cells #[.string ⟨#[]⟩] 9)) 3 (.int .i64 0)).alloc (.cells #[.int .i64 0] 24)).alloc (.cells #[.string (str l), .int .i64 0] 90)
    rwa [World.size_alloc] at this
  · have := (Boxed.new ((w.alloc (.cells #[.string ⟨#[]⟩] 9)).alloc (.cells #[.int .i64 0] 3)) 24 (.int .i64 0)).alloc (.cells #[.string (str l), .int .i64 0] 90)
    rwa [World.size_alloc, World.size_alloc] at this
  · have := World.alloc_heap_new (((w.alloc (.cells #[.string ⟨#[]⟩] 9)).alloc (.cells #[.int .i64 0] 3)).alloc (.cells #[.int .i64 0] 24)) (.cells #[.string (str l), .int .i64 0] 90)
    rw [World.size_alloc, World.size_alloc, World.size_alloc] at this
    exact this
theorem Bld.lt {B b : Nat} {s : List UInt8} {W : World} (h : Bld B b s W) : b < W.heap.size := by
  rcases h with h | h
  · exact h.lt
  · exact h.lt
theorem ScanI.head {w : World} {l s : List UInt8} {r : Qt.Pt} {bb i : Nat} {W : World} (h : ScanI w l r bb i s W) (hi : i < l.length) (hq : Qt.bt l i = 34) : r = ⟨s, i + 1, 0⟩ := by
  rw [h.go, Qt.go_quote]
  rw [Qt.quote_at]; simp [hi, hq]
theorem ScanI.fail {w : World} {l s : List UInt8} {r : Qt.Pt} {bb i : Nat} {W : World} (h : ScanI w l r bb i s W) (hq : Qt.bt l i ≠ 34) (he : (Qt.part (l.drop i)).e ≠ 0) : r = Qt.err (Qt.part (l.drop i)).e := by
  rw [h.go, Qt.go_err]
  · rw [Qt.quote_at]; simp [hq]
  · exact he
theorem ScanI.next {w : World} {l s : List UInt8} {r : Qt.Pt} {bb i : Nat} {W : World} (h : ScanI w l r bb i s W) (hi : i < l.length) (hq : Qt.bt l i ≠ 34) (q : Qt.Pt) (hp : q = Qt.part (l.drop i)) (he : q.e = 0) {W' : World}
    (hW : ScanW w l (i + q.n) W') (hb : Bld bb bb (s ++ q.s) W') : ScanI w l r bb (i + q.n) (s ++ q.s) W' ∧ 1 ≤ q.n := by
  subst hp
  have h1 := Qt.part_ok he
  have h2 := Qt.part_len he
  have h3 := h.sl
  rw [List.length_drop] at h1
  refine ⟨⟨hW, hb, by omega, by rw [List.length_append]; omega, ?_⟩, h1.1⟩
  rw [h.go, Qt.go_part _ _ (by rw [Qt.quote_at]; simp [hq]) he, List.drop_drop]

set_option maxHeartbeats 4000000 in
set_option maxRecDepth 1000000 in
theorem qscan_go (c : UInt8) (rest : List UInt8) (w : World) (hF : Forms w) (hl : rest.length + 1 ≤ 1000000) (hc : c.toNat = 34) :
    Calls Tryd.prog 48 #[.string (str (c :: rest))] w fun e w' => e = .returned (scanV (Qt.scan (c :: rest))) ∧ Below w.heap.size w w' := by
  have hmf : ∀ (fn : Fn) (first cap : Array Value) (w : World), (Instr.makeFunc fn first cap).run Tryd.prog w = .ok (.func fn first cap) w := fun _ _ _ _ => rfl
  obtain ⟨r, hr⟩ : ∃ r, r = Qt.scan (c :: rest) := ⟨_, rfl⟩
  rw [← hr]
  rw [Qt.scan_cons, if_neg (by omega)] at hr
  obtain ⟨l, hl0⟩ : ∃ l, l = c :: rest := ⟨_, rfl⟩
  have hdr : rest = l.drop 1 := by rw [hl0]; rfl
  have hlen : l.length = rest.length + 1 := by rw [hl0]; rfl
  have hb0 : Qt.bt l 0 = 34 := by rw [hl0]; exact hc
  rw [← hl0]
  rw [hdr] at hr
  have HR := Lib.hid hr
  clear hl0 hdr hr hc
  have hl1 : 0 < l.length := by omega
  have hl6 : l.length ≤ 1000000 := by omega
  have HL := Lib.hid hlen
  clear hlen hl
  go_enter_defers Tryd.func48, Tryd.ntmps48
  go_wp2_with fail
  have hW0 : ScanW w l 0 ((((w.alloc (.cells #[.string ⟨#[]⟩] 9)).alloc (.cells #[.int .i64 0] 3)).alloc (.cells #[.int .i64 0] 24)).alloc (.cells #[.string (str l), .int .i64 0] 90)) := scanW_new w l
  have hs0 : ((((w.alloc (.cells #[.string ⟨#[]⟩] 9)).alloc (.cells #[.int .i64 0] 3)).alloc (.cells #[.int .i64 0] 24)).alloc (.cells #[.string (str l), .int .i64 0] 90)).heap.size = w.heap.size + 1 + 1 + 1 + 1 := by simp
  generalize hW : (((w.alloc (.cells #[.string ⟨#[]⟩] 9)).alloc (.cells #[.int .i64 0] 3)).alloc (.cells #[.int .i64 0] 24)).alloc (.cells #[.string (str l), .int .i64 0] 90) = W at *
  refine (qexactly_ok _ 0 34 l W hW0.r hl1 (by omega) hb0).mono ?_
  clear hW
  rintro e w2 ⟨rfl, hR2, hE2⟩
  have hW2 := hW0.ext hE2 hR2
  clear hW0 hR2 hE2 hb0 hs0
  go_wp2_with fail
  have hbb : w.heap.size + 1 + 1 + 1 < w2.heap.size := hW2.r.lt
  have hI0 : ScanI w l r w2.heap.size 1 [] (w2.alloc (.cells #[.pointer none, .slice none 0 0] 95)) :=
    ⟨hW2.below' ((Below.refl _ w2).alloc (Nat.le_refl _) _) hbb, Lib.fresh_isBuilder 95 5 w2, by omega, by simp, HR.out⟩
  have hsz : w2.heap.size < (w2.alloc (.cells #[.pointer none, .slice none 0 0] 95)).heap.size := by simp
  generalize w2.alloc (.cells #[.pointer none, .slice none 0 0] 95) = W3 at hI0 hsz ⊢
  generalize w2.heap.size = bb at hI0 hsz hbb ⊢
  clear hW2 HR
  go_loopg [13] (l.length - 1) (fun k _ wr => ∃ i s, k = l.length - i ∧ ScanI w l r bb i s wr)
  case atStart => exact ⟨1, [], rfl, hI0⟩
  case round =>
    obtain ⟨i, s, rfl, hI⟩ := hrel
    have c1 := hI.ws.r.cell1
    by_cases hi : i < l.length
    · have hd : decide ((i : Int) < (l.length : Int)) = true := by simpa using hi
      have hix : nth l i = (Qt.bt l i : Int) := rfl
      have e1 : 0 ≤ (i : Int) ∧ (i : Int) < l.length := by omega
      have hb256 : Qt.bt l i < 256 := (l.getD i 0).toNat_lt
      have f1 := hI.ws.r.frozen 1
      have HI := Lib.hid hI
      clear hI
      obtain ⟨c, hc⟩ : ∃ c, c = Qt.bt l i := ⟨_, rfl⟩
      have HC := Lib.hid hc
      rw [← hc] at hix hb256
      clear hc
      by_cases h34 : c = 34
      · have hcb : ((c : Int) == 34) = true := by simp; omega
        have HQ : Hid (r = ⟨s, i + 1, 0⟩) := by
          unfold Hid
          exact HI.out.head hi (by rw [← HC.out, h34])
        have hst := fun W h hB => bstring_any bb bb s W h hB
        have hBl := HI.out.bld
        have hWS := HI.out.ws
        have hw1 : IntKind.i64.wrap ((i : Int) + 1) = (i : Int) + 1 := IntWalk.i64_in _ (by omega)
        clear h34
        go_wp2_with fail
        refine (must_yes' _ _ _ (by simp)).mono ?_
        rintro e w4 ⟨rfl, rfl⟩
        go_wp2_with fail
        clear hix hcb hd e1
        go_region_held3 (fun w' => w'.cell? ⟨w.heap.size + 1 + 1 + 1, 1, none⟩ = some (.int .i64 i)) ((first | go_keep | ((repeat rw [World.cell?_setCell_other _ _ _ _ (by simp; try omega)]); assumption))) ((go_at_call 69; refine (hst _ ?_ ?_).mono ?_; (first | exact hBl | exact hBl.ext (Ext.refl (fun _ => False) _).drew (fun _ h => h.elim)); (first | exact Nat.le_of_lt hBl.lt); rintro e w5 ⟨rfl, hB5⟩; have hW5 := (hWS.below' (Below.refl bb _).drew hbb).below' hB5 hbb; have k1 := hW5.r.cell1; have k2 := hW5.s.cell; have k3 := hW5.n.cell; have k4 := hW5.e.cell; have m2 := hW5.s.frozen; have m3 := hW5.n.frozen; have m4 := hW5.e.frozen))
        all_goals
          go_wp2
          refine scan_tells HQ ?_ ?_ ?_ ?_ ⟨rfl, rfl, rfl⟩
          · exact ((hW5.below.setCell (p := ⟨w.heap.size, 0, none⟩) (Nat.le_refl _) _).setCell (p := ⟨w.heap.size + 1, 0, none⟩) (by simp) _).setCell (p := ⟨w.heap.size + 1 + 1, 0, none⟩) (by simp; omega) _
          · exact ((hW5.s.set _).other (by omega) _).other (by omega) _
          · rw [show ((i + 1 : Nat) : Int) = (i : Int) + 1 by omega]
            exact (((hW5.n.other (by omega) _).set _).other (by omega) _)
          · exact (((hW5.e.other (by omega) _).other (by omega) _).set _)
      · have hcb : ((c : Int) == 34) = false := by simp; omega
        by_cases h92 : c = 92
        · have hcb2 : ((c : Int) == 92) = true := by simp; omega
          have hR1 := HI.out.ws.r.set (i + 1)
          have hE1 : QE (w.heap.size + 1 + 1 + 1) wr (wr.setCell ⟨w.heap.size + 1 + 1 + 1, 1, none⟩ (.int .i64 ((i + 1 : Nat) : Int))) := Ext.setCell (T := fun k => k = w.heap.size + 1 + 1 + 1) (p := ⟨w.heap.size + 1 + 1 + 1, 1, none⟩) (Ext.refl _ _) rfl _
          have hF1 := forms_QE (hF.below HI.out.ws.below) HI.out.ws.r hE1
          have hp : Qt.part (l.drop i) = Qt.esc (l.drop (i + 1)) := by
            have h1 := HC.out
            rw [Qt.part_at, if_neg (by omega), if_neg (by omega), if_neg (by omega)]
          have hesc := qescape_any (w.heap.size + 1 + 1 + 1) (i + 1) l _ hR1 hF1 (by omega)
          rw [← hp] at hesc
          have hq34 : Qt.bt l i ≠ 34 := by rw [← HC.out]; exact h34
          have HP := Lib.hid (And.intro hq34 hE1)
          have hsl := HI.out.sl
          have hw1 : ((i + 1 : Nat) : Int) = (i : Int) + 1 := by omega
          rw [hw1] at hesc HP
          generalize hqq : Qt.part (l.drop i) = q at hesc
          have HQ := Lib.hid hqq
          clear hqq hp hR1 hE1 hF1 hq34 h34 h92 hw1
          go_wp2_with fail
          refine (must_yes' _ _ _ (by simp)).mono ?_
          rintro e w4 ⟨rfl, rfl⟩
          go_wp2_with fail
          refine hesc.mono ?_
          rintro e w5 ⟨hE5, hres⟩
          have hE15 := HP.out.2.trans hE5
          rcases hres with ⟨h0, rfl, hR5⟩ | ⟨h0, rfl⟩
          · have hq5 : i + 1 + q.n - 1 = i + q.n := by omega
            rw [hq5] at hR5
            have hW5 := HI.out.ws.ext hE15 hR5
            have hB5 := HI.out.bld.ext hE15 (fun k hk => by omega)
            have hql := Qt.part_len (l := l.drop i) (by rw [HQ.out]; exact h0)
            rw [HQ.out] at hql
            have hws := bwstring_any bb bb s q.s w5 hB5 (by omega) (Nat.le_of_lt hB5.lt)
            have HH := Lib.hid (And.intro h0 hW5)
            clear h0 hq5 hR5 hW5 hE5 hB5 hesc hql
            go_wp2_with fail
            refine hws.mono ?_
            rintro e w6 ⟨rfl, hB6, hb6⟩
            obtain ⟨hI6, hn1⟩ := HI.out.next hi HP.out.1 q HQ.out.symm HH.out.1 (HH.out.2.below' hb6 hbb) hB6
            have hle := hI6.le
            go_wp2
            go_roundg (l.length - (i + q.n))
            case measure => omega
            case rel => exact ⟨i + q.n, s ++ q.s, rfl, hI6⟩
          · have HF : Hid (r = Qt.err q.e) := by
              have := HI.out.fail HP.out.1 (by rw [HQ.out]; exact h0)
              rw [HQ.out] at this
              exact this
            clear hesc
            go_wp2
            exact scan_dies HF (HI.out.ws.after hE15) ⟨rfl, rfl, rfl⟩
        · have hcb2 : ((c : Int) == 92) = false := by simp; omega
          have hF1 := hF.below HI.out.ws.below
          have hp : Qt.part (l.drop i) = Qt.plainP l i := by
            have h1 := HC.out
            rw [Qt.part_at, if_neg (by omega)]
            unfold Qt.plainP
            by_cases h32 : Qt.bt l i < 32
            · rw [if_pos h32, if_pos h32]
            · rw [if_neg h32, if_neg h32, if_pos (by omega)]
          have hesc := qplain_any (w.heap.size + 1 + 1 + 1) i l wr HI.out.ws.r hF1 hi (by omega)
          rw [← hp] at hesc
          have hq34 : Qt.bt l i ≠ 34 := by rw [← HC.out]; exact h34
          have HP := Lib.hid hq34
          have hsl := HI.out.sl
          generalize hqq : Qt.part (l.drop i) = q at hesc
          have HQ := Lib.hid hqq
          clear hqq hp hF1 hq34 h34 h92
          go_wp2_with fail
          refine (must_yes' _ _ _ (by simp)).mono ?_
          rintro e w4 ⟨rfl, rfl⟩
          go_wp2_with fail
          refine hesc.mono ?_
          rintro e w5 ⟨hE15, hres⟩
          rcases hres with ⟨h0, rfl, hR5⟩ | ⟨h0, rfl⟩
          · have hW5 := HI.out.ws.ext hE15 hR5
            have hB5 := HI.out.bld.ext hE15 (fun k hk => by omega)
            have hql := Qt.part_len (l := l.drop i) (by rw [HQ.out]; exact h0)
            rw [HQ.out] at hql
            have hws := bwstring_any bb bb s q.s w5 hB5 (by omega) (Nat.le_of_lt hB5.lt)
            have HH := Lib.hid (And.intro h0 hW5)
            clear h0 hR5 hW5 hB5 hesc hql
            go_wp2_with fail
            refine hws.mono ?_
            rintro e w6 ⟨rfl, hB6, hb6⟩
            obtain ⟨hI6, hn1⟩ := HI.out.next hi HP.out q HQ.out.symm HH.out.1 (HH.out.2.below' hb6 hbb) hB6
            have hle := hI6.le
            go_wp2
            go_roundg (l.length - (i + q.n))
            case measure => omega
            case rel => exact ⟨i + q.n, s ++ q.s, rfl, hI6⟩
          · have HF : Hid (r = Qt.err q.e) := by
              have := HI.out.fail HP.out (by rw [HQ.out]; exact h0)
              rw [HQ.out] at this
              exact this
            clear hesc
            go_wp2
            exact scan_dies HF (HI.out.ws.after hE15) ⟨rfl, rfl, rfl⟩
    · have hd : decide ((i : Int) < (l.length : Int)) = false := by simp; omega
      have HQ : Hid (r = Qt.err 2) := by
        unfold Hid
        rw [hI.go, List.drop_eq_nil_of_le (by omega)]; rfl
      go_wp2_with fail
      refine (must_no' _ _ _ (by simp)).mono ?_
      rintro e w4 ⟨rfl, rfl⟩
      go_wp2
      exact scan_dies HQ (hI.ws.after (Ext.refl _ _)) ⟨rfl, rfl, rfl⟩
end Go.Proofs.YthabfgpncebigaaDoor

/- quote: Scan of anything, Parse. -/
namespace Go.Proofs.YthabfgpncebigaaDoor
open Go.RowKit

set_option maxHeartbeats 4000000 in
set_option maxRecDepth 1000000 in
theorem qscan_no (l : List UInt8) (w : World) (hl : l.length ≤ 1000000) (h : 0 < l.length → Qt.bt l 0 ≠ 34) :
    Calls Tryd.prog 48 #[.string (str l)] w fun e w' => e = .returned (scanV (Qt.scan l)) ∧ Below w.heap.size w w' := by
  have hmf : ∀ (fn : Fn) (first cap : Array Value) (w : World), (Instr.makeFunc fn first cap).run Tryd.prog w = .ok (.func fn first cap) w := fun _ _ _ _ => rfl
  obtain ⟨r, hr⟩ : ∃ r, r = Qt.scan l := ⟨_, rfl⟩
  rw [← hr]
  have HR : Hid (r = Qt.err (exErr l 0)) := by
    unfold Hid exErr
    rw [hr]
    cases l with
    | nil => rfl
    | cons c t => rw [Qt.scan_cons, if_pos (show c.toNat ≠ 34 from h (by simp)), if_pos (by simp)]
  clear hr
  generalize hee : exErr l 0 = ee at HR
  go_enter_defers Tryd.func48, Tryd.ntmps48
  go_wp2_with fail
  have hW0 : ScanW w l 0 ((((w.alloc (.cells #[.string ⟨#[]⟩] 9)).alloc (.cells #[.int .i64 0] 3)).alloc (.cells #[.int .i64 0] 24)).alloc (.cells #[.string (str l), .int .i64 0] 90)) := scanW_new w l
  generalize hW : (((w.alloc (.cells #[.string ⟨#[]⟩] 9)).alloc (.cells #[.int .i64 0] 3)).alloc (.cells #[.int .i64 0] 24)).alloc (.cells #[.string (str l), .int .i64 0] 90) = W at *
  refine (qexactly_no _ 0 34 l W hW0.r (by omega) h).mono ?_
  clear hW
  rintro e w2 ⟨rfl, hE2⟩
  rw [hee]
  clear hee
  go_wp2
  exact scan_dies HR (hW0.after hE2) ⟨rfl, rfl, rfl⟩
theorem qscan_any (l : List UInt8) (w : World) (hF : Forms w) (hl : l.length ≤ 1000000) :
    Calls Tryd.prog 48 #[.string (str l)] w fun e w' => e = .returned (scanV (Qt.scan l)) ∧ Below w.heap.size w w' := by
  by_cases h : 0 < l.length → Qt.bt l 0 ≠ 34
  · exact qscan_no l w hl h
  · cases l with
    | nil => exact absurd (fun h => absurd h (by simp)) h
    | cons c rest =>
      refine qscan_go c rest w hF hl ?_
      refine Decidable.byContradiction fun hc => h fun _ => hc

end Go.Proofs.YthabfgpncebigaaDoor
