/- Tokens in plain Lean: the token that bytes begin with; all tokens of a text. No program in sight. lex: letter, name; tabulariumref11: Letter, Blank, is, end. lex: name; tabulariumref11: is, end. lex: remark. tabulariumref11: token, comment. Tokens as cells; append of tokens to a row of the call's own. -/
import Derived.Test.YthabfgpncebigaaDoorBN
import Derived.Test.YthabfgpncebigaaDoorBQ
import Derived.Laws.BitsAllLaws
import Derived.Deep.LoopGhost
import Derived.Test.YthabfgpncebigaaDoorBA
import Derived.Test.YthabfgpncebigaaDoorBU
import Derived.Handy
import Derived.Laws.Rows
import Derived.Outline

/- Tokens in plain Lean: the token that bytes begin with; all tokens of a text. No program in sight. -/
namespace Go.Proofs.YthabfgpncebigaaDoor.Lx

def blank (b : UInt8) : Bool := [32, 9, 13].contains b
def letter (b : UInt8) : Bool := decide (97 ≤ b.toNat ∧ b.toNat ≤ 122) || (decide (65 ≤ b.toNat ∧ b.toNat ≤ 90) || decide (b.toNat = 95))
/-- A letter or a digit. -/
def lord (b : UInt8) : Bool := letter b || Nm.dig b
def nameL (l : List UInt8) : Nat := (l.takeWhile lord).length

/-- A token's kind and length; or where and why it goes wrong. -/
structure Tl where
  k : Nat
  n : Nat
  i : Nat
  e : Nat

/-- A scalar that no comment has, at its place. -/
def low (x : Nat × Nat) : Bool := decide (x.2 < 32 ∧ x.2 ≠ 9)
/-- Where a comment's text goes wrong, and why; why = 0: it does not. -/
def chkF : Nat → List UInt8 → Nat → Nat × Nat
  | 0, _, _ => (0, 0)
  | k + 1, l, p => if l = [] then (0, 0) else if (Utf.next l).2 = 0 then (p, 7) else if low (Utf.next l).swap = true then (p, 3) else chkF k (l.drop (Utf.next l).2) (p + (Utf.next l).2)
def chk (l : List UInt8) : Nat × Nat := chkF (l.length + 1) l 0
/-- A comment of these bytes. -/
def rem (k : Nat) (t : List UInt8) : Tl := if (chk t).2 = 0 then ⟨k, t.length, 0, 0⟩ else ⟨0, 0, (chk t).1, (chk t).2⟩

def line (l : List UInt8) : List UInt8 := l.takeWhile (· != 10)
def trim (t : List UInt8) : List UInt8 := Lib.trimRightS t [32, 9, 13]
def twos : List (List UInt8) := [[61, 61], [33, 61], [60, 61], [62, 61], [38, 38], [124, 124]]
def ones : List (List UInt8) := [[61], [60], [62], [43], [45], [42], [47], [37], [33], [63], [58], [44], [46], [40], [41], [91], [93], [123], [125]]
/-- How long the sign is that bytes begin with; 0: there is none. -/
def sign (l : List UInt8) : Nat := if twos.any (·.isPrefixOf l) = true then 2 else if ones.any (·.isPrefixOf l) = true then 1 else 0
/-- Where a comment within a line ends, from its third byte on. -/
def shut (l : List UInt8) : Int := Lib.index ((line l).drop 2) [42, 47]

/-- The token that bytes begin with. -/
noncomputable def one (l : List UInt8) : Tl :=
  match l with
  | [] => ⟨0, 0, 0, 3⟩
  | b :: _ =>
    if b = 10 then ⟨5, 1, 0, 0⟩
    else if letter b = true then ⟨1, nameL l, 0, 0⟩
    else if Nm.dig b = true then ⟨2, Nm.scan l, 0, (Nm.numV (l.take (Nm.scan l))).2⟩
    else if b = 34 then ⟨3, (Qt.scan l).n, 0, (Qt.scan l).e⟩
    else if b = 35 ∨ [47, 47].isPrefixOf l = true then rem 6 (trim (line l))
    else if [47, 42].isPrefixOf l = true then (if shut l < 0 then ⟨0, 0, 0, 2⟩ else rem 7 ((line l).take ((shut l).toNat + 4)))
    else if sign l = 0 then ⟨0, 0, 0, 3⟩ else ⟨4, sign l, 0, 0⟩

/-- A token. -/
structure Tok where
  k : Int
  t : List UInt8
  p : Int

/-- The tokens from a place on, where and why it goes wrong. -/
noncomputable def walkF : Nat → Nat → List UInt8 → List Tok × Int × Nat
  | 0, _, _ => ([], -1, 0)
  | f + 1, p, l =>
    match l with
    | [] => ([], -1, 0)
    | b :: r =>
      if blank b = true then walkF f (p + 1) r
      else if (one l).e ≠ 0 then ([], ((p + (one l).i : Nat) : Int), (one l).e)
      else (⟨(one l).k, l.take (one l).n, p⟩ :: (walkF f (p + (one l).n) (l.drop (one l).n)).1, (walkF f (p + (one l).n) (l.drop (one l).n)).2)
noncomputable def walk (p : Nat) (l : List UInt8) : List Tok × Int × Nat := walkF (l.length + 1) p l

theorem chkF_fuel : ∀ (k m : Nat) (l : List UInt8) (p : Nat), l.length < k → l.length < m → chkF k l p = chkF m l p
  | 0, _, _, _, h, _ => absurd h (Nat.not_lt_zero _)
  | _, 0, _, _, _, h => absurd h (Nat.not_lt_zero _)
  | k + 1, m + 1, l, p, hk, hm => by
    rw [chkF, chkF]
    by_cases h0 : l = []
    · rw [if_pos h0, if_pos h0]
    · rw [if_neg h0, if_neg h0]
      by_cases h1 : (Utf.next l).2 = 0
      · rw [if_pos h1, if_pos h1]
      · rw [if_neg h1, if_neg h1]
        by_cases h2 : low (Utf.next l).swap = true
        · rw [if_pos h2, if_pos h2]
        · rw [if_neg h2, if_neg h2]
          have hl : l.length ≠ 0 := fun h => h0 (List.eq_nil_of_length_eq_zero h)
          exact chkF_fuel k m _ _ (by rw [List.length_drop]; omega) (by rw [List.length_drop]; omega)
/-- The check from a place on. -/
def chkA (l : List UInt8) (p : Nat) : Nat × Nat := chkF (l.length + 1) l p
theorem chkA_nil (p : Nat) : chkA [] p = (0, 0) := rfl
theorem chkA_ne {l : List UInt8} {p : Nat} (h0 : l ≠ []) : chkA l p = if (Utf.next l).2 = 0 then (p, 7) else if low (Utf.next l).swap = true then (p, 3) else chkA (l.drop (Utf.next l).2) (p + (Utf.next l).2) := by
  unfold chkA
  rw [chkF, if_neg h0]
  by_cases h1 : (Utf.next l).2 = 0
  · rw [if_pos h1, if_pos h1]
  · rw [if_neg h1, if_neg h1]
    have hl : l.length ≠ 0 := fun h => h0 (List.eq_nil_of_length_eq_zero h)
    congr 1
    exact chkF_fuel _ _ _ _ (by rw [List.length_drop]; omega) (by omega)
/-- As the program has it: the first low scalar of all that are told; else where it stops. -/
theorem chkA_scan : ∀ (k : Nat) (l : List UInt8) (p : Nat), l.length < k → chkA l p = match (Utf.scan l p).1.find? (fun x => low (x.1, x.2)) with | some x => (x.1, 3) | none => if (Utf.scan l p).2 = p + l.length then (0, 0) else ((Utf.scan l p).2, 7)
  | 0, _, _, h => absurd h (Nat.not_lt_zero _)
  | k + 1, l, p, hk => by
    by_cases h0 : l = []
    · subst h0; rw [chkA_nil, Utf.scan_nil]; simp
    · have hl : l.length ≠ 0 := fun h => h0 (List.eq_nil_of_length_eq_zero h)
      rw [chkA_ne h0]
      by_cases h1 : (Utf.next l).2 = 0
      · rw [if_pos h1, Utf.scan_no h1]
        simp only [List.find?_nil]
        rw [if_neg (by omega)]
      · rw [if_neg h1, Utf.scan_ok h1]
        simp only [List.find?_cons]
        have hs : low (Utf.next l).swap = low (p, (Utf.next l).1) := rfl
        rw [hs]
        cases low (p, (Utf.next l).1)
        · have ih := chkA_scan k (l.drop (Utf.next l).2) (p + (Utf.next l).2) (by rw [List.length_drop]; omega)
          have hle := Utf.next_le (l := l)
          rw [if_neg (by decide), ih]
          rw [show p + (Utf.next l).2 + (l.drop (Utf.next l).2).length = p + l.length by rw [List.length_drop]; omega]
        · rfl
theorem chk_all (l : List UInt8) : chk l = match (Utf.all l).find? low with | some x => (x.1, 3) | none => if Utf.valid l = true then (0, 0) else (Utf.stop l, 7) := by
  have h := chkA_scan _ l 0 (Nat.lt_succ_self _)
  rw [Nat.zero_add] at h
  rw [show chk l = chkA l 0 from rfl, h]
  unfold Utf.all Utf.valid Utf.stop
  cases hf : (Utf.scan l 0).1.find? low with
  | some x => rfl
  | none => simp only [decide_eq_true_eq]

theorem isP1 {l : List UInt8} (a : UInt8) (h : 0 < l.length) : [a].isPrefixOf l = decide (l[0] = a) := by
  cases l with
  | nil => cases h
  | cons b r => simp [List.isPrefixOf, eq_comm, Bool.beq_eq_decide_eq]
theorem takeWhile_len_le (p : UInt8 → Bool) (l : List UInt8) : (l.takeWhile p).length ≤ l.length := (List.takeWhile_sublist p).length_le
theorem line_le (l : List UInt8) : (line l).length ≤ l.length := takeWhile_len_le _ l
theorem trim_le (t : List UInt8) : (trim t).length ≤ t.length := by
  unfold trim Lib.trimRightS
  rw [List.length_reverse]
  have := (List.dropWhile_sublist (l := t.reverse) (([32, 9, 13] : List UInt8).contains ·)).length_le
  rwa [List.length_reverse] at this
theorem sign_le (l : List UInt8) : sign l ≤ 2 := by unfold sign; split; · omega
                                                    split <;> omega
theorem sign_len (l : List UInt8) : sign l ≤ l.length := by
  have hp : ∀ (L : List (List UInt8)) (n : Nat), (∀ x ∈ L, x.length = n) → L.any (·.isPrefixOf l) = true → n ≤ l.length := by
    intro L n hL h
    obtain ⟨x, hx, hp⟩ := List.any_eq_true.1 h
    have := (List.isPrefixOf_iff_prefix.1 hp).length_le
    rw [hL x hx] at this; exact this
  unfold sign
  split
  · rename_i h; exact hp twos 2 (by decide) h
  · split
    · rename_i h; exact hp ones 1 (by decide) h
    · omega
theorem index_le : ∀ (s sub : List UInt8), Lib.index s sub ≤ s.length ∧ (0 ≤ Lib.index s sub → Lib.index s sub + sub.length ≤ s.length)
  | [], sub => by
    unfold Lib.index
    cases sub with
    | nil => simp
    | cons a r => simp
  | b :: l, sub => by
    have ih := index_le l sub
    unfold Lib.index
    split
    · rename_i h
      have := (List.isPrefixOf_iff_prefix.1 h).length_le
      exact ⟨by simp; omega, fun _ => by simp only [List.length_cons] at this ⊢; omega⟩
    · split
      · exact ⟨by simp; omega, fun h => by omega⟩
      · simp only [List.length_cons]
        refine ⟨by omega, fun h => ?_⟩
        rename_i hne
        have := Lib.index_ge l sub
        have : ¬Lib.index l sub = -1 := by simpa using hne
        omega
theorem shut_ge (l : List UInt8) : -1 ≤ shut l := Lib.index_ge _ _
theorem shut_le {l : List UInt8} (h : 0 ≤ shut l) : (shut l).toNat + 4 ≤ (line l).length := by
  have := (index_le ((line l).drop 2) [42, 47]).2 h
  unfold shut at h ⊢
  rw [List.length_drop] at this
  simp at this
  omega
theorem rem_ok {k : Nat} {t : List UInt8} (h : (rem k t).e = 0) : rem k t = ⟨k, t.length, 0, 0⟩ := by
  unfold rem at h ⊢
  split
  · rfl
  · rename_i h2; rw [if_neg h2] at h; exact absurd h h2
theorem trim_head {b : UInt8} {t : List UInt8} (h : blank b = false) : 1 ≤ (trim (b :: t)).length := by
  unfold trim Lib.trimRightS
  rw [List.length_reverse, List.reverse_cons]
  have key : ∀ (x : List UInt8), 1 ≤ ((x ++ [b]).dropWhile (([32, 9, 13] : List UInt8).contains ·)).length := by
    intro x
    induction x with
    | nil =>
      rw [List.nil_append, List.dropWhile_cons_of_neg (by unfold blank at h; rw [h]; simp)]
      simp
    | cons a x ih =>
      rw [List.cons_append, List.dropWhile_cons]
      split
      · exact ih
      · simp
  exact key _
theorem qscanF_n : ∀ (k : Nat) (l s : List UInt8) (p : Nat), (Qt.scanF k l s p).e = 0 → p ≤ (Qt.scanF k l s p).n
  | 0, _, _, _, h => by cases h
  | k + 1, l, s, p, h => by
    unfold Qt.scanF at h ⊢
    split
    · exact Nat.le_succ p
    · rename_i h1
      rw [if_neg h1] at h
      split
      · rename_i h2; rw [if_pos h2] at h; exact absurd h h2
      · rename_i h2
        rw [if_neg h2] at h
        have := qscanF_n k _ _ _ h
        omega
theorem qscan_n {l : List UInt8} (h : (Qt.scan l).e = 0) : 1 ≤ (Qt.scan l).n ∧ (Qt.scan l).n ≤ l.length := by
  refine ⟨?_, (Qt.scan_valid l).2.2 h⟩
  cases l with
  | nil => cases h
  | cons b r =>
    unfold Qt.scan at h ⊢
    simp only at h ⊢
    split
    · rename_i h1; rw [if_pos h1] at h; cases h
    · rename_i h1; rw [if_neg h1] at h; exact qscanF_n _ _ _ _ h
theorem letter_ok {b : UInt8} (h : letter b = true) : blank b = false ∧ b ≠ 10 := by
  have : ∀ c : Fin 256, letter (UInt8.ofNat c.val) = true → blank (UInt8.ofNat c.val) = false ∧ UInt8.ofNat c.val ≠ 10 := by decide +kernel
  have h2 := this ⟨b.toNat, b.toNat_lt⟩
  simp only [UInt8.ofNat_toNat] at h2
  exact h2 h
theorem one_len {l : List UInt8} (h : (one l).e = 0) : 1 ≤ (one l).n ∧ (one l).n ≤ l.length := by
  cases l with
  | nil => cases h
  | cons b r =>
    unfold one at h ⊢
    simp only at h ⊢
    by_cases h1 : b = 10
    · rw [if_pos h1]; simp
    rw [if_neg h1] at h ⊢
    by_cases h2 : letter b = true
    · rw [if_pos h2]
      refine ⟨?_, takeWhile_len_le _ _⟩
      show 1 ≤ (List.takeWhile lord (b :: r)).length
      rw [List.takeWhile_cons, if_pos (by unfold lord; rw [h2]; rfl)]
      simp
    rw [if_neg h2] at h ⊢
    by_cases h3 : Nm.dig b = true
    · rw [if_pos h3]
      refine ⟨?_, Nm.scan_le _⟩
      show 1 ≤ Nm.scan (b :: r)
      have h45 : Nm.hb 45 (b :: r) = false := by
        unfold Nm.hb
        have := Nm.dig_le h3
        exact decide_eq_false (by omega)
      unfold Nm.scan
      rw [h45, if_neg (by simp)]
      have hw : Nm.wholeF (b :: r) ≠ 0 := by
        unfold Nm.wholeF
        rw [if_pos (show Nm.hd (b :: r) = true from h3)]
        split
        · omega
        · exact Nm.run_pos.2 h3
      rw [if_neg hw]
      omega
    rw [if_neg h3] at h ⊢
    by_cases h4 : b = 34
    · rw [if_pos h4] at h ⊢
      exact qscan_n h
    rw [if_neg h4] at h ⊢
    by_cases h5 : b = 35 ∨ [47, 47].isPrefixOf (b :: r) = true
    · rw [if_pos h5] at h ⊢
      rw [rem_ok h]
      have hb : blank b = false ∧ b ≠ 10 := by
        rcases h5 with h5 | h5
        · rw [h5]; decide
        · have : b = 47 := by simp [List.isPrefixOf] at h5; exact h5.1.symm
          rw [this]; decide
      have hl : line (b :: r) = b :: line r := by
        unfold line
        rw [List.takeWhile_cons, if_pos (by simpa using hb.2)]
      refine ⟨?_, Nat.le_trans (trim_le _) (line_le _)⟩
      rw [hl]
      exact trim_head hb.1
    rw [if_neg h5] at h ⊢
    by_cases h6 : [47, 42].isPrefixOf (b :: r) = true
    · rw [if_pos h6] at h ⊢
      by_cases h7 : shut (b :: r) < 0
      · rw [if_pos h7] at h; cases h
      rw [if_neg h7] at h ⊢
      rw [rem_ok h]
      have := shut_le (l := b :: r) (by omega)
      have h8 := line_le (b :: r)
      show 1 ≤ (List.take _ _).length ∧ (List.take _ _).length ≤ _
      rw [List.length_take]
      omega
    rw [if_neg h6] at h ⊢
    by_cases h7 : sign (b :: r) = 0
    · rw [if_pos h7] at h; cases h
    rw [if_neg h7]
    exact ⟨Nat.pos_of_ne_zero h7, sign_len _⟩

theorem walkF_fuel : ∀ (k m p : Nat) (l : List UInt8), l.length < k → l.length < m → walkF k p l = walkF m p l
  | 0, _, _, _, h, _ => absurd h (Nat.not_lt_zero _)
  | _, 0, _, _, _, h => absurd h (Nat.not_lt_zero _)
  | k + 1, m + 1, p, l, hk, hm => by
    cases l with
    | nil => rfl
    | cons b r =>
      simp only [List.length_cons] at hk hm
      rw [walkF, walkF]
      split
      · exact walkF_fuel k m _ _ (by omega) (by omega)
      · split
        · rfl
        · rename_i h
          have hn := one_len (Decidable.byContradiction fun hh => h hh)
          rw [walkF_fuel k m (p + (one (b :: r)).n) ((b :: r).drop (one (b :: r)).n) (by rw [List.length_drop, List.length_cons]; omega) (by rw [List.length_drop, List.length_cons]; omega)]
theorem walk_nil (p : Nat) : walk p [] = ([], -1, 0) := rfl
theorem walk_blank {b : UInt8} {r : List UInt8} {p : Nat} (h : blank b = true) : walk p (b :: r) = walk (p + 1) r := by
  show walkF _ _ _ = _
  rw [List.length_cons, walkF]
  rw [if_pos h]; rfl
theorem walk_bad {b : UInt8} {r : List UInt8} {p : Nat} (h : blank b = false) (h2 : (one (b :: r)).e ≠ 0) : walk p (b :: r) = ([], ((p + (one (b :: r)).i : Nat) : Int), (one (b :: r)).e) := by
  show walkF _ _ _ = _
  rw [List.length_cons, walkF]
  rw [if_neg (by rw [h]; simp), if_pos h2]
theorem walk_tok {b : UInt8} {r : List UInt8} {p : Nat} (h : blank b = false) (h2 : (one (b :: r)).e = 0) :
    walk p (b :: r) = (⟨(one (b :: r)).k, (b :: r).take (one (b :: r)).n, p⟩ :: (walk (p + (one (b :: r)).n) ((b :: r).drop (one (b :: r)).n)).1, (walk (p + (one (b :: r)).n) ((b :: r).drop (one (b :: r)).n)).2) := by
  show walkF _ _ _ = _
  have hn := one_len h2
  rw [List.length_cons, walkF]
  rw [if_neg (by rw [h]; simp), if_neg (fun hh => hh h2)]
  unfold walk
  rw [walkF_fuel (r.length + 1) (((b :: r).drop (one (b :: r)).n).length + 1) _ _ (by rw [List.length_drop, List.length_cons]; omega) (by omega)]
end Go.Proofs.YthabfgpncebigaaDoor.Lx

/- lex: letter, name; tabulariumref11: Letter, Blank, is, end. -/
namespace Go.Proofs.YthabfgpncebigaaDoor
open Go.RowKit

theorem letter_or (b : UInt8) : Lx.letter b = (decide ((b.toNat : Int) = 95) || (decide ((97 : Int) ≤ ((b.toNat ||| 32 : Nat) : Int)) && decide (((b.toNat ||| 32 : Nat) : Int) ≤ 122))) := by
  have : ∀ c : Fin 256, Lx.letter (UInt8.ofNat c.val) = (decide (((UInt8.ofNat c.val).toNat : Int) = 95) || (decide ((97 : Int) ≤ (((UInt8.ofNat c.val).toNat ||| 32 : Nat) : Int)) && decide ((((UInt8.ofNat c.val).toNat ||| 32 : Nat) : Int) ≤ 122))) := by decide +kernel
  have h2 := this ⟨b.toNat, b.toNat_lt⟩
  simp only [UInt8.ofNat_toNat] at h2
  exact h2

set_option maxHeartbeats 1000000 in
set_option maxRecDepth 100000 in
theorem lletter_any (b : UInt8) (w : World) : Calls Tryd.prog 44 #[.int .u8 b.toNat] w fun e w' => e = .returned (.bool (Lx.letter b)) ∧ w = w' := by
  have hl := letter_or b
  have hb : bits .or .u8 (b.toNat : Int) ((32 : Nat) : Int) = ((b.toNat ||| 32 : Nat) : Int) := u8_or_nat _ _ b.toNat_lt (by omega)
  rw [hl]
  generalize ((b.toNat ||| 32 : Nat) : Int) = y at *
  generalize (b.toNat : Int) = x at *
  have hy : bits .or .u8 x 32 = y := hb
  clear hb hl
  by_cases h1 : x = 95
  · have b1 : (x == 95) = true := by simpa using h1
    rw [decide_eq_true h1]
    clear h1
    go_enter Tryd.func44, Tryd.ntmps44
    go_wp2
    go_returns
    exact ⟨rfl, rfl⟩
  · have b1 : (x == 95) = false := by simpa using h1
    rw [decide_eq_false h1]
    by_cases h2 : 97 ≤ y
    · by_cases h3 : y ≤ 122
      · rw [decide_eq_true h2, decide_eq_true h3]
        go_enter Tryd.func44, Tryd.ntmps44
        go_wp2
        go_returns
        exact ⟨rfl, rfl⟩
      · rw [decide_eq_true h2, decide_eq_false h3]
        go_enter Tryd.func44, Tryd.ntmps44
        go_wp2
        go_returns
        exact ⟨rfl, rfl⟩
    · rw [decide_eq_false h2]
      go_enter Tryd.func44, Tryd.ntmps44
      go_wp2
      go_returns
      exact ⟨rfl, rfl⟩

theorem rletter_cases (b : UInt8) : Lx.letter b = ((decide ((97 : Int) ≤ b.toNat) && decide ((b.toNat : Int) ≤ 122)) || ((decide ((65 : Int) ≤ b.toNat) && decide ((b.toNat : Int) ≤ 90)) || decide ((b.toNat : Int) = 95))) := by
  unfold Lx.letter
  congr 1
  · rw [Bool.decide_and]
    congr 1 <;> exact decide_eq_decide.2 (by omega)
  · congr 1
    · rw [Bool.decide_and]
      congr 1 <;> exact decide_eq_decide.2 (by omega)
    · exact decide_eq_decide.2 (by omega)
set_option maxHeartbeats 1000000 in
set_option maxRecDepth 100000 in
theorem rletter_any (b : UInt8) (w : World) : Calls Tryd.prog 33 #[.int .u8 b.toNat] w fun e w' => e = .returned (.bool (Lx.letter b)) ∧ w = w' := by
  rw [rletter_cases b]
  generalize (b.toNat : Int) = x at *
  by_cases h1 : 97 ≤ x
  · by_cases h2 : x ≤ 122
    · rw [decide_eq_true h1, decide_eq_true h2]
      go_enter Tryd.func33, Tryd.ntmps33
      go_wp2
      go_returns
      exact ⟨rfl, rfl⟩
    · have h3 : 65 ≤ x := by omega
      have h4 : ¬x ≤ 90 := by omega
      have h5 : ¬x = 95 := by omega
      have b5 : (x == 95) = false := by simpa using h5
      rw [decide_eq_true h1, decide_eq_false h2, decide_eq_true h3, decide_eq_false h4, decide_eq_false h5]
      go_enter Tryd.func33, Tryd.ntmps33
      go_wp2
      go_returns
      exact ⟨rfl, rfl⟩
  · rw [decide_eq_false h1]
    by_cases h5 : x = 95
    · subst h5
      go_enter Tryd.func33, Tryd.ntmps33
      go_wp2
      go_returns
      exact ⟨rfl, rfl⟩
    · have b5 : (x == 95) = false := by simpa using h5
      rw [decide_eq_false h5]
      by_cases h3 : 65 ≤ x
      · by_cases h4 : x ≤ 90
        · rw [decide_eq_true h3, decide_eq_true h4]
          go_enter Tryd.func33, Tryd.ntmps33
          go_wp2
          go_returns
          exact ⟨rfl, rfl⟩
        · rw [decide_eq_true h3, decide_eq_false h4]
          go_enter Tryd.func33, Tryd.ntmps33
          go_wp2
          go_returns
          exact ⟨rfl, rfl⟩
      · rw [decide_eq_false h3]
        go_enter Tryd.func33, Tryd.ntmps33
        go_wp2
        go_returns
        exact ⟨rfl, rfl⟩
theorem blank_cases (b : UInt8) : Lx.blank b = (decide ((b.toNat : Int) = 32) || (decide ((b.toNat : Int) = 9) || decide ((b.toNat : Int) = 13))) := by
  have : ∀ c : Fin 256, Lx.blank (UInt8.ofNat c.val) = (decide (((UInt8.ofNat c.val).toNat : Int) = 32) || (decide (((UInt8.ofNat c.val).toNat : Int) = 9) || decide (((UInt8.ofNat c.val).toNat : Int) = 13))) := by decide +kernel
  have h2 := this ⟨b.toNat, b.toNat_lt⟩
  simp only [UInt8.ofNat_toNat] at h2
  exact h2
set_option maxHeartbeats 1000000 in
set_option maxRecDepth 100000 in
theorem rblank_any (b : UInt8) (w : World) : Calls Tryd.prog 12 #[.int .u8 b.toNat] w fun e w' => e = .returned (.bool (Lx.blank b)) ∧ w = w' := by
  rw [blank_cases b]
  generalize (b.toNat : Int) = x at *
  by_cases h1 : x = 32
  · subst h1
    go_enter Tryd.func12, Tryd.ntmps12
    go_wp2
    go_returns
    exact ⟨rfl, rfl⟩
  · have b1 : (x == 32) = false := by simpa using h1
    rw [decide_eq_false h1]
    by_cases h2 : x = 9
    · subst h2
      go_enter Tryd.func12, Tryd.ntmps12
      go_wp2
      go_returns
      exact ⟨rfl, rfl⟩
    · have b2 : (x == 9) = false := by simpa using h2
      rw [decide_eq_false h2]
      by_cases h3 : x = 13
      · subst h3
        go_enter Tryd.func12, Tryd.ntmps12
        go_wp2
        go_returns
        exact ⟨rfl, rfl⟩
      · have b3 : (x == 13) = false := by simpa using h3
        rw [decide_eq_false h3]
        go_enter Tryd.func12, Tryd.ntmps12
        go_wp2
        go_returns
        exact ⟨rfl, rfl⟩
end Go.Proofs.YthabfgpncebigaaDoor

/- lex: name; tabulariumref11: is, end. -/
namespace Go.Proofs.YthabfgpncebigaaDoor
open Go.RowKit

theorem tw_yes {l : List UInt8} {p : UInt8 → Bool} {n : Nat} (h : n < l.length) (hp : p l[n] = true) : ((l.drop n).takeWhile p).length = ((l.drop (n + 1)).takeWhile p).length + 1 := by
  rw [List.drop_eq_getElem_cons h, List.takeWhile_cons, if_pos hp]; rfl
theorem tw_no {l : List UInt8} {p : UInt8 → Bool} {n : Nat} (h : n < l.length) (hp : p l[n] = false) : ((l.drop n).takeWhile p).length = 0 := by
  rw [List.drop_eq_getElem_cons h, List.takeWhile_cons, if_neg (by rw [hp]; simp)]; rfl
theorem tw_end {l : List UInt8} {p : UInt8 → Bool} {n : Nat} (h : ¬n < l.length) : ((l.drop n).takeWhile p).length = 0 := by
  rw [List.drop_eq_nil_of_le (by omega)]; rfl
theorem dig_int (b : UInt8) : Nm.dig b = (decide ((48 : Int) ≤ b.toNat) && decide ((b.toNat : Int) ≤ 57)) := by
  unfold Nm.dig
  rw [Bool.decide_and]
  congr 1 <;> exact decide_eq_decide.2 (by omega)

set_option maxHeartbeats 1000000 in
set_option maxRecDepth 100000 in
theorem lname_any (l : List UInt8) (w : World) (h0 : 0 < l.length) (hb0 : Lx.letter l[0] = true) (hl : l.length ≤ 4611686018427387904) :
    Calls Tryd.prog 45 #[.string (str l)] w fun e w' => e = .returned (.int .i64 (Lx.nameL l)) ∧ w = w' := by
  obtain ⟨ans, hans⟩ : ∃ ans, ans = Lx.nameL l := ⟨_, rfl⟩
  rw [← hans]
  have HA : Hid (ans = 0 + ((l.drop 0).takeWhile Lx.lord).length) := by rw [hans, List.drop_zero, Nat.zero_add]; rfl
  have HB := Lib.hid hb0
  clear hans hb0
  go_enter Tryd.func45, Tryd.ntmps45
  go_wp2
  go_loopg [3] (l.length) (fun g nv wr => ∃ n : Nat, g = l.length - n ∧ nv = .int .i64 n ∧ n ≤ l.length ∧ Hid (ans = n + ((l.drop n).takeWhile Lx.lord).length) ∧ wr = w)
  case atStart => exact ⟨0, rfl, rfl, Nat.zero_le _, HA, rfl⟩
  case round =>
    obtain ⟨n, rfl, rfl, hn, HN, rfl⟩ := hrel
    clear HA
    by_cases hlt : n < l.length
    · have d1 : (n : Int) < l.length := by omega
      have d2 : 0 ≤ (n : Int) ∧ (n : Int) < l.length := by omega
      have hw1 : IntKind.i64.wrap ((n : Int) + 1) = (n : Int) + 1 := IntWalk.i64_in _ (by omega)
      have hnx : nth l n = (l[n].toNat : Int) := nth_eq hlt
      have hyes := tw_yes (p := Lx.lord) hlt
      have hno := tw_no (p := Lx.lord) hlt
      have HZ : Hid (n = 0 → Lx.letter l[n] = true) := by rintro rfl; exact HB.out
      have hlet := lletter_any l[n]
      have hdig := dig_int l[n]
      generalize l[n] = b at *
      clear HB
      cases hb : Lx.letter b
      · have hn0 : 0 < n := Nat.pos_of_ne_zero fun h => by have := HZ.out h; rw [hb] at this; cases this
        have d3 : 0 < (n : Int) := by omega
        have hlord : Lx.lord b = Nm.dig b := by unfold Lx.lord; rw [hb]; rfl
        rw [hlord] at hyes hno
        rw [hb] at hlet
        clear HZ hb hlord
        by_cases h1 : (48 : Int) ≤ b.toNat
        · rw [decide_eq_true h1, Bool.true_and] at hdig
          by_cases h2 : (b.toNat : Int) ≤ 57
          · rw [decide_eq_true h2] at hdig
            have HN2 : Hid (ans = (n + 1) + ((l.drop (n + 1)).takeWhile Lx.lord).length) := by
              have h3 := HN.out
              rw [hyes hdig] at h3
              show ans = _
              omega
            clear hyes hno hdig HN
            generalize (b.toNat : Int) = x at *
            go_wp2_with fail
            refine (hlet _).mono ?_
            rintro e w2 ⟨rfl, rfl⟩
            go_wp2_with fail
            go_roundg (l.length - (n + 1))
            case measure => omega
            case rel => exact ⟨n + 1, rfl, by simp, hlt, HN2, rfl⟩
          · rw [decide_eq_false h2] at hdig
            have HN2 : Hid (ans = n) := by
              have h3 := HN.out
              rw [hno hdig] at h3
              exact h3
            clear hyes hno hdig HN
            generalize (b.toNat : Int) = x at *
            go_wp2_with fail
            refine (hlet _).mono ?_
            rintro e w2 ⟨rfl, rfl⟩
            go_wp2_with fail
            go_returns
            exact ⟨by rw [HN2.out]; rfl, rfl⟩
        · rw [decide_eq_false h1, Bool.false_and] at hdig
          have HN2 : Hid (ans = n) := by
            have h3 := HN.out
            rw [hno hdig] at h3
            exact h3
          clear hyes hno hdig HN
          generalize (b.toNat : Int) = x at *
          go_wp2_with fail
          refine (hlet _).mono ?_
          rintro e w2 ⟨rfl, rfl⟩
          go_wp2_with fail
          go_returns
          exact ⟨by rw [HN2.out]; rfl, rfl⟩
      · have HN2 : Hid (ans = (n + 1) + ((l.drop (n + 1)).takeWhile Lx.lord).length) := by
          have h3 := HN.out
          rw [hyes (by unfold Lx.lord; rw [hb]; rfl)] at h3
          show ans = _
          omega
        rw [hb] at hlet
        clear hyes hno hdig HN HZ hb
        generalize (b.toNat : Int) = x at *
        go_wp2_with fail
        refine (hlet _).mono ?_
        rintro e w2 ⟨rfl, rfl⟩
        go_wp2_with fail
        go_roundg (l.length - (n + 1))
        case measure => omega
        case rel => exact ⟨n + 1, rfl, by simp, hlt, HN2, rfl⟩
    · have d1 : ¬(n : Int) < l.length := by omega
      have HN2 : Hid (ans = n) := by
        have h3 := HN.out
        rw [tw_end hlt] at h3
        exact h3
      clear HN HB
      go_wp2_with fail
      go_returns
      exact ⟨by rw [HN2.out]; rfl, rfl⟩

set_option maxHeartbeats 1000000 in
set_option maxRecDepth 100000 in
/-- is: does this stand there? -/
theorem ris_any (l : List UInt8) (p : Nat) (v : List UInt8) (w : World) (hp : p ≤ l.length) (hl : l.length + v.length ≤ 4611686018427387904) :
    Calls Tryd.prog 37 #[.string (str l), .int .i64 p, .string (str v)] w fun e w' => e = .returned (.bool (v.isPrefixOf (l.drop p))) ∧ w = w' := by
  have hw1 : IntKind.i64.wrap ((p : Int) + v.length) = (p : Int) + v.length := IntWalk.i64_in _ (by omega)
  obtain ⟨ans, hans⟩ : ∃ ans, ans = v.isPrefixOf (l.drop p) := ⟨_, rfl⟩
  rw [← hans]
  have hpre : ans = decide ((l.drop p).take v.length = v) := by
    rw [hans, Bool.eq_iff_iff, List.isPrefixOf_iff_prefix, decide_eq_true_eq, List.prefix_iff_eq_take]
    exact eq_comm
  have HA := Lib.hid hpre
  clear hans hpre
  by_cases hle : p + v.length ≤ l.length
  · have e1 : (p : Int) + v.length ≤ l.length := by omega
    have e2 : 0 ≤ (p : Int) ∧ (p : Int) ≤ (p : Int) + v.length ∧ (p : Int) + v.length ≤ l.length := by omega
    have e3 : ((p : Int) + v.length).toNat - p = v.length := by omega
    obtain ⟨t, ht⟩ : ∃ t, t = (l.drop p).take v.length := ⟨_, rfl⟩
    have e4 : (l.drop p).take v.length = t := ht.symm
    have HT := Lib.hid ht
    clear ht
    by_cases htv : t = v
    · have b1 : (t == v) = true := by simpa using htv
      have HV := Lib.hid htv
      clear htv
      go_enter Tryd.func37, Tryd.ntmps37
      go_wp2
      go_returns
      exact ⟨by rw [HA.out, ← HT.out, decide_eq_true HV.out]; rfl, rfl⟩
    · have b1 : (t == v) = false := by simpa using htv
      have HV := Lib.hid htv
      clear htv
      go_enter Tryd.func37, Tryd.ntmps37
      go_wp2
      go_returns
      exact ⟨by rw [HA.out, ← HT.out, decide_eq_false HV.out]; rfl, rfl⟩
  · have e1 : ¬(p : Int) + v.length ≤ l.length := by omega
    have e5 : ans = false := by
      rw [HA.out]
      refine decide_eq_false fun h => ?_
      have := congrArg List.length h
      rw [List.length_take, List.length_drop] at this
      omega
    have HE := Lib.hid e5
    clear HA e5
    go_enter Tryd.func37, Tryd.ntmps37
    go_wp2
    go_returns
    exact ⟨by rw [HE.out]; rfl, rfl⟩

set_option maxHeartbeats 1000000 in
set_option maxRecDepth 100000 in
/-- end: where the line at a place ends. -/
theorem rend_any (l : List UInt8) (p : Nat) (w : World) (hp : p ≤ l.length) (hl : l.length ≤ 4611686018427387904) :
    Calls Tryd.prog 38 #[.string (str l), .int .i64 p] w fun e w' => e = .returned (.int .i64 ((p + (Lx.line (l.drop p)).length : Nat) : Int)) ∧ w = w' := by
  obtain ⟨ans, hans⟩ : ∃ ans, ans = p + (Lx.line (l.drop p)).length := ⟨_, rfl⟩
  rw [← hans]
  have HA := Lib.hid hans
  clear hans
  go_enter Tryd.func38, Tryd.ntmps38
  go_wp2
  go_loopg [1] (l.length - p) (fun g nv wr => ∃ n : Nat, g = l.length - n ∧ nv = .int .i64 n ∧ n ≤ l.length ∧ Hid (ans = n + ((l.drop n).takeWhile (· != 10)).length) ∧ wr = w)
  case atStart => exact ⟨p, rfl, rfl, hp, HA, rfl⟩
  case round =>
    obtain ⟨n, rfl, rfl, hn, HN, rfl⟩ := hrel
    clear HA
    by_cases hlt : n < l.length
    · have d1 : (n : Int) < l.length := by omega
      have d2 : 0 ≤ (n : Int) ∧ (n : Int) < l.length := by omega
      have hw1 : IntKind.i64.wrap ((n : Int) + 1) = (n : Int) + 1 := IntWalk.i64_in _ (by omega)
      have hnx : nth l n = (l[n].toNat : Int) := nth_eq hlt
      have hyes := tw_yes (p := (· != 10)) hlt
      have hno := tw_no (p := (· != 10)) hlt
      generalize l[n] = b at *
      by_cases h10 : b = 10
      · have hnx2 : nth l n = 10 := by rw [hnx, h10]; rfl
        have HN2 : Hid (ans = n) := by
          have h3 := HN.out
          rw [hno (by rw [h10]; rfl)] at h3
          exact h3
        clear HN hyes hno hnx h10
        go_wp2_with fail
        go_returns
        exact ⟨by rw [HN2.out]; rfl, rfl⟩
      · have HN2 : Hid (ans = (n + 1) + ((l.drop (n + 1)).takeWhile (· != 10)).length) := by
          have h3 := HN.out
          rw [hyes (by simpa using h10)] at h3
          show ans = _
          omega
        have b10 : ((b.toNat : Int) != 10) = true := by
          have : ¬(b.toNat : Int) = 10 := fun h => h10 (UInt8.toNat_inj.1 (by show b.toNat = 10; omega))
          simpa using this
        clear HN hyes hno h10
        generalize (b.toNat : Int) = x at *
        go_wp2_with fail
        go_roundg (l.length - (n + 1))
        case measure => omega
        case rel => exact ⟨n + 1, rfl, by simp, hlt, HN2, rfl⟩
    · have d1 : ¬(n : Int) < l.length := by omega
      have HN2 : Hid (ans = n) := by
        have h3 := HN.out
        rw [tw_end hlt] at h3
        exact h3
      clear HN
      go_wp2_with fail
      go_returns
      exact ⟨by rw [HN2.out]; rfl, rfl⟩
end Go.Proofs.YthabfgpncebigaaDoor

/- lex: remark. -/
namespace Go.Proofs.YthabfgpncebigaaDoor
open Go.RowKit

attribute [local go_sem] Oper.semAt_some

/-- A token's length, or how it goes wrong, as the program hands it on. -/
def tlC (x : Lx.Tl) : Array Value := #[.int .i64 x.k, .int .i64 x.n, .int .i64 x.i, .int .i64 x.e]
def tlA (x : Lx.Tl) : Value := .agg (tlC x)

/-- What is between two rounds. -/
def RemI (w : World) (pre : List (Nat × Nat)) (W : World) : Prop := (∀ x ∈ pre, Lx.low x = false) ∧ Blk w.heap.size 53 (tlC ⟨0, 0, 0, 0⟩) W ∧ Below w.heap.size w W
def RemX (w : World) (c : Code) (pre : List (Nat × Nat)) (W : World) : Prop := c = .ret ∧ ∃ pre' x, pre = pre' ++ [x] ∧ (∀ x ∈ pre', Lx.low x = false) ∧ Lx.low x = true ∧ Blk w.heap.size 53 (tlC ⟨0, 0, x.1, 3⟩) W ∧ Below w.heap.size w W

theorem all_snoc {pre : List (Nat × Nat)} {x : Nat × Nat} (h : ∀ y ∈ pre, Lx.low y = false) (hx : Lx.low x = false) : ∀ y ∈ pre ++ [x], Lx.low y = false := fun y hy => by
  rcases List.mem_append.1 hy with hy | hy
  · exact h y hy
  · rw [List.mem_singleton.1 hy]; exact hx
theorem find_none {l : List (Nat × Nat)} (h : ∀ y ∈ l, Lx.low y = false) : l.find? Lx.low = none := List.find?_eq_none.2 fun y hy => by rw [h y hy]; simp
theorem find_some {l pre : List (Nat × Nat)} {x : Nat × Nat} (hp : pre ++ [x] <+: l) (h : ∀ y ∈ pre, Lx.low y = false) (hx : Lx.low x = true) : l.find? Lx.low = some x := by
  obtain ⟨t, rfl⟩ := hp
  rw [List.append_assoc, List.find?_append, find_none h]
  simp [hx]

theorem info_told : (Tryd.prog.info? 53).map (·.size) = some 4 := by kernel_rfl
/-- How remark ends. -/
theorem rem_end {w W : World} {D k : Nat} {l : List UInt8} (x : Lx.Tl) (tm : Array Value) (h4 : tm.getD 4 undef = .pointer (some ⟨w.heap.size, 0, none⟩)) (hR : Hid (Lx.rem k l = x))
    (hb : Blk w.heap.size 53 (tlC x) W) (hB : Below w.heap.size w W) (hd : W.heap[D]? = some (.deferred (some []))) (hD : w.heap.size ≤ D) :
    bodyPostM Fence.wide 5 Tryd.prog Tryd.f50 (fun e w' => e = .returned (tlA (Lx.rem k l)) ∧ Below w.heap.size w w') Exit.ret { tmps := tm, defers := [{ target := .collected D, args := #[] }] } W := by
  refine ⟨by simp, .inl ⟨_, _, rfl, run_takeDeferred hd, ?_⟩⟩
  refine ⟨_, results_cell_row rfl tm _ w.heap.size 53 (tlC x) (0, 0) _ h4 (hb.putObj hd rfl) Tryd.underlying53 rfl info_told, ?_, below_putObj hB hD⟩
  rw [hR.out]; rfl

set_option maxHeartbeats 2000000 in
set_option maxRecDepth 100000 in
theorem lremark_any (k : Nat) (l : List UInt8) (w : World) (hF : Forms w) (hl : l.length ≤ 1000000000) :
    Calls Tryd.prog 50 #[.int .i64 k, .string (str l)] w fun e w' => e = .returned (tlA (Lx.rem k l)) ∧ Below w.heap.size w w' := by
  refine (callsIn_wide (n := 5)).1 ?_
  refine callsIn_of_wp_marks Tryd.func50 rfl trivial ?_ rfl
  simp only [Tryd.ntmps50, List.size_toArray, List.length_cons, List.length_nil, Nat.reduceAdd, Nat.reduceSub, Array.replicate_succ, Array.replicate_zero, List.push_toArray, List.append_toArray, List.nil_append, List.cons_append]
  refine wpIn_wide.2 ?_
  have hbad := fun w hF => bad_any l w hF (by omega)
  go_wp2_with fail
  refine (hbad _ (hF.alloc _)).mono ?_
  rintro e w2 ⟨rfl, hB2⟩
  go_wp2_with fail
  refine (uallfn_any _ _).mono ?_
  rintro e w3 ⟨rfl, rfl⟩
  go_wp2_with fail
  have hb0 : Blk w.heap.size 53 (tlC ⟨0, 0, 0, 0⟩) (w2.alloc (.cells #[.string (str l)] 9)) := ((Blk.new w _ _).below hB2 (by simp)).alloc _
  have hsz : w.heap.size < w2.heap.size := by have := hB2.size; simp at this; omega
  have bs1 : Boxed (w2.alloc (.cells #[.string (str l)] 9)) w2.heap.size 9 (.string (str l)) := Boxed.new w2 _ _
  have hB : Below w.heap.size w (w2.alloc (.cells #[.string (str l)] 9)) := (((Below.refl _ w).alloc (Nat.le_refl _) _).trans (hB2.mono (by simp))).alloc (by omega) _
  have hF1 : Forms (w2.alloc (.cells #[.string (str l)] 9)) := hF.below hB
  have hs1 : w2.heap.size < (w2.alloc (.cells #[.string (str l)] 9)).heap.size := by simp
  have hFlt := hF.1
  generalize w2.alloc (.cells #[.string (str l)] 9) = W0 at hb0 bs1 hB hF1 hs1 ⊢
  generalize w2.heap.size = bx at hsz bs1 hs1 ⊢
  clear hB2 hbad
  refine wpIn_wide.1 (wpIn_rangeFunc_T (n := 5) rfl (by omega) (gf := 97) (lb := #[.pointer (some ⟨bx, 0, none⟩)]) rfl trivial (enters_of Tryd.func97 (by kernel_rfl) rfl)
    (uall_seq 4 bx l (fun _ => False) UK W0 (by omega) bs1 hF1 (by omega) (fun k hk => hk)) (fun k hk => hk.elim) (fun k hk => by rw [show k = _ from hk]; exact hF1.1) (fun _ => rfl)
    (RemI w) (RemX w)
    (fun s A B h he => ⟨h.1, h.2.1.ext he (fun h => h), below_ext h.2.2 he (fun k hk => hk.elim) (Nat.le_refl _)⟩)
    (fun cc s A B h he => by obtain ⟨h1, p', x, h2, h3, h4, h5, h6⟩ := h; exact ⟨h1, p', x, h2, h3, h4, h5.ext he (fun h => h), below_ext h6 he (fun k hk => hk.elim) (Nat.le_refl _)⟩)
    (fun s A lb o o' h hlb ho hc => ⟨h.1, h.2.1.putObj ho hc, below_putObj h.2.2 (by omega)⟩)
    (fun cc s A lb o o' h hlb ho hc => by obtain ⟨h1, p', x, h2, h3, h4, h5, h6⟩ := h; exact ⟨h1, p', x, h2, h3, h4, h5.putObj ho hc, below_putObj h6 (by omega)⟩)
    ⟨fun x hx => (by cases hx), hb0, hB⟩
    (fun x => { tmps := #[Value.int IntKind.i64 ↑k, Value.string (str l), undef, undef,
          Value.pointer (some { block := w.heap.size, off := 0 }), Value.int IntKind.i64 (badI l), .int .i64 x.1, .int .i64 x.2,
          Value.string (str l), Value.int IntKind.i64 (badI l), Value.string (str l),
          Value.func (Fn.func 97) #[] #[Value.pointer (some { block := bx, off := 0 })], .int .i64 x.1, .int .i64 x.2, undef,
          undef, undef, undef, undef, undef, undef, undef, undef, undef, undef, undef, undef, undef, undef, undef], defers := [] }) ?assign ?body ?done ?stop)
  case assign =>
    intro lp x W K' hK'
    simp only [encS]
    gi_wp2
    exact hK'
  case body =>
    rintro lp pre x W2 ⟨hpre, hbW, hBW⟩
    have c0 : W2.cell? ⟨w.heap.size, 0, none⟩ = some (.int .i64 0) := hbW.cell 0
    have c1 : W2.cell? ⟨w.heap.size, 1, none⟩ = some (.int .i64 0) := hbW.cell 1
    have c2 : W2.cell? ⟨w.heap.size, 2, none⟩ = some (.int .i64 0) := hbW.cell 2
    have c3 : W2.cell? ⟨w.heap.size, 3, none⟩ = some (.int .i64 0) := hbW.cell 3
    have f0 := hbW.frozen 0
    have f1 := hbW.frozen 1
    have f2 := hbW.frozen 2
    have f3 := hbW.frozen 3
    have HX : Hid (Lx.low x = decide ((x.2 : Int) < 32 ∧ (x.2 : Int) ≠ 9)) := by
      show Lx.low x = _
      unfold Lx.low
      exact decide_eq_decide.2 (by omega)
    by_cases h1 : (x.2 : Int) < 32
    · by_cases h2 : (x.2 : Int) = 9
      · have hlow : Lx.low x = false := by rw [HX.out]; exact decide_eq_false (by omega)
        have hd2 : ((x.2 : Int) != 9) = false := by simpa using h2
        have HL := Lib.hid hlow
        clear hlow h2
        gi_wp2
        exact ⟨RKeeps.refl _ _ _, all_snoc hpre HL.out, hbW, hBW⟩
      · have hlow : Lx.low x = true := by rw [HX.out]; exact decide_eq_true ⟨h1, h2⟩
        have hd2 : ((x.2 : Int) != 9) = true := by simpa using h2
        have HL := Lib.hid hlow
        clear hlow h2
        gi_wp2
        have hE : Ext (fun k => k = w.heap.size) W2 ((((W2.setCell ⟨w.heap.size, 0, none⟩ (.int .i64 0)).setCell ⟨w.heap.size, 1, none⟩ (.int .i64 0)).setCell ⟨w.heap.size, 2, none⟩ (.int .i64 x.1)).setCell ⟨w.heap.size, 3, none⟩ (.int .i64 3)) :=
          ((((Ext.refl (fun k => k = w.heap.size) W2).setCell (p := ⟨w.heap.size, 0, none⟩) rfl _).setCell (p := ⟨w.heap.size, 1, none⟩) rfl _).setCell (p := ⟨w.heap.size, 2, none⟩) rfl _).setCell (p := ⟨w.heap.size, 3, none⟩) rfl _
        refine ⟨RKeeps.of_ext hE (fun k hk => by rw [show k = _ from hk]; exact ⟨(hF.below hBW).1, by omega⟩) (fun k hk o ho => by subst hk; rw [hbW] at ho; cases ho; exact .inl rfl), rfl, pre, x, rfl, hpre, HL.out, ?_, below_ext hBW hE (fun k hk => by omega) (Nat.le_refl _)⟩
        exact (((hbW.set 0 _).set 1 _).set 2 _).set 3 _
    · have hlow : Lx.low x = false := by rw [HX.out]; exact decide_eq_false (by omega)
      have HL := Lib.hid hlow
      clear hlow
      gi_wp2
      exact ⟨RKeeps.refl _ _ _, all_snoc hpre HL.out, hbW, hBW⟩
  case done =>
    rintro D xs W2 hDs rfl ⟨h0, hbW, hBW⟩ hd
    have hc := Lx.chk_all l
    rw [find_none h0] at hc
    simp only at hc
    have c0 : W2.cell? ⟨w.heap.size, 0, none⟩ = some (.int .i64 0) := hbW.cell 0
    have c1 : W2.cell? ⟨w.heap.size, 1, none⟩ = some (.int .i64 0) := hbW.cell 1
    have c2 : W2.cell? ⟨w.heap.size, 2, none⟩ = some (.int .i64 0) := hbW.cell 2
    have c3 : W2.cell? ⟨w.heap.size, 3, none⟩ = some (.int .i64 0) := hbW.cell 3
    have f0 := hbW.frozen 0
    have f1 := hbW.frozen 1
    have f2 := hbW.frozen 2
    have f3 := hbW.frozen 3
    have hbi : badI l = if Utf.valid l = true then -1 else (Utf.stop l : Int) := rfl
    rw [hbi]
    cases hv : Utf.valid l
    · rw [if_neg (by simp)]
      rw [hv, if_neg (by simp)] at hc
      have HR : Hid (Lx.rem k l = ⟨0, 0, Utf.stop l, 7⟩) := by
        show Lx.rem k l = _
        unfold Lx.rem
        rw [hc, if_neg (by simp)]
      clear hc h0 hv hbi
      have hs0 : (0 : Int) ≤ Utf.stop l := by omega
      generalize Utf.stop l = st at *
      have hE : Ext (fun k => k = w.heap.size) W2 ((((W2.setCell ⟨w.heap.size, 0, none⟩ (.int .i64 0)).setCell ⟨w.heap.size, 1, none⟩ (.int .i64 0)).setCell ⟨w.heap.size, 2, none⟩ (.int .i64 st)).setCell ⟨w.heap.size, 3, none⟩ (.int .i64 7)) :=
          ((((Ext.refl (fun k => k = w.heap.size) W2).setCell (p := ⟨w.heap.size, 0, none⟩) rfl _).setCell (p := ⟨w.heap.size, 1, none⟩) rfl _).setCell (p := ⟨w.heap.size, 2, none⟩) rfl _).setCell (p := ⟨w.heap.size, 3, none⟩) rfl _
      have hD : w.heap.size < D := by have := hB.size; omega
      go_wp2_with fail
      exact rem_end ⟨0, 0, st, 7⟩ _ rfl HR ((((hbW.set 0 _).set 1 _).set 2 _).set 3 _) (below_ext hBW hE (fun k hk => by omega) (Nat.le_refl _)) ((hE.block D (Array.getElem?_eq_some_iff.1 hd).1 (by omega)).trans hd) (by omega)
    · rw [if_pos rfl]
      rw [hv, if_pos rfl] at hc
      have HR : Hid (Lx.rem k l = ⟨k, l.length, 0, 0⟩) := by
        show Lx.rem k l = _
        unfold Lx.rem
        rw [hc, if_pos rfl]
      clear hc h0 hv hbi
      have hE : Ext (fun k => k = w.heap.size) W2 ((((W2.setCell ⟨w.heap.size, 0, none⟩ (.int .i64 k)).setCell ⟨w.heap.size, 1, none⟩ (.int .i64 l.length)).setCell ⟨w.heap.size, 2, none⟩ (.int .i64 0)).setCell ⟨w.heap.size, 3, none⟩ (.int .i64 0)) :=
          ((((Ext.refl (fun k => k = w.heap.size) W2).setCell (p := ⟨w.heap.size, 0, none⟩) rfl _).setCell (p := ⟨w.heap.size, 1, none⟩) rfl _).setCell (p := ⟨w.heap.size, 2, none⟩) rfl _).setCell (p := ⟨w.heap.size, 3, none⟩) rfl _
      have hD : w.heap.size < D := by have := hB.size; omega
      go_wp2_with fail
      exact rem_end ⟨k, l.length, 0, 0⟩ _ rfl HR ((((hbW.set 0 _).set 1 _).set 2 _).set 3 _) (below_ext hBW hE (fun k hk => by omega) (Nat.le_refl _)) ((hE.block D (Array.getElem?_eq_some_iff.1 hd).1 (by omega)).trans hd) (by omega)
  case stop =>
    rintro D cc pre W2 hDs hSp ⟨rfl, pre', x, rfl, hpre, hlow, hbW, hBW⟩ hd
    have hc := Lx.chk_all l
    rw [find_some hSp hpre hlow] at hc
    simp only at hc
    have HR : Hid (Lx.rem k l = ⟨0, 0, x.1, 3⟩) := by
      show Lx.rem k l = _
      unfold Lx.rem
      rw [hc, if_neg (by simp)]
    clear hc hSp hpre hlow
    have hD : w.heap.size < D := by have := hB.size; omega
    refine wpIn_wide.2 ?_
    go_wp2_with fail
    exact rem_end ⟨0, 0, x.1, 3⟩ _ rfl HR hbW hBW hd (by omega)
end Go.Proofs.YthabfgpncebigaaDoor

/- tabulariumref11: token, comment. -/
namespace Go.Proofs.YthabfgpncebigaaDoor
open Go.RowKit

/-- A token's cells. -/
def tokC (t : Lx.Tok) : Array Value := #[.int .i64 t.k, .string (str t.t), .int .i64 t.p]
/-- What the document's function hands on: a slice of one token, or where and why it goes wrong. -/
inductive RTold (w : World) (l : List UInt8) (p : Nat) (x : Lx.Tl) : Ending → World → Prop
  | tok (g : Nat) (w' : World) (h0 : x.e = 0) (hb : Blk g 33 (tokC ⟨x.k, (l.drop p).take x.n, p⟩) w') (hg : w.heap.size ≤ g) (hB : Below w.heap.size w w') : RTold w l p x (.returned (.agg #[.slice (some ⟨g, 0, none⟩) 1 1, .int .i64 0, .int .i64 0])) w'
  | bad (w' : World) (h0 : x.e ≠ 0) (hB : Below w.heap.size w w') : RTold w l p x (.returned (.agg #[.slice none 0 0, .int .i64 ((p + x.i : Nat) : Int), .int .i64 x.e])) w'

set_option maxHeartbeats 1000000 in
set_option maxRecDepth 100000 in
theorem rtoken_any (l : List UInt8) (p k n : Nat) (w : World) (hp : p + n ≤ l.length) (hl : l.length ≤ 1000000000) :
    Calls Tryd.prog 32 #[.string (str l), .int .i64 p, .int .i64 k, .int .i64 n] w (RTold w l p ⟨k, n, 0, 0⟩) := by
  have hw1 : IntKind.i64.wrap ((p : Int) + n) = (p : Int) + n := IntWalk.i64_in _ (by omega)
  have e2 : 0 ≤ (p : Int) ∧ (p : Int) ≤ (p : Int) + n ∧ (p : Int) + n ≤ l.length := by omega
  have e4 : ((p : Int) + n).toNat - p = n := by omega
  go_enter Tryd.func32, Tryd.ntmps32
  go_wp2
  go_returns
  exact RTold.tok (w.heap.size + 1) _ rfl (Blk.newAt _ _ _ (by simp)) (by omega) (by go_grown)

theorem rem_bad {k : Nat} {t : List UInt8} {i e : Nat} (h : Lx.chk t = (i, e)) (he : e ≠ 0) : Lx.rem k t = ⟨0, 0, i, e⟩ := by
  unfold Lx.rem
  rw [h, if_neg he]
theorem rem_good {k : Nat} {t : List UInt8} (h : Lx.chk t = (0, 0)) : Lx.rem k t = ⟨k, t.length, 0, 0⟩ := by
  unfold Lx.rem
  rw [h, if_pos rfl]

set_option maxHeartbeats 2000000 in
set_option maxRecDepth 100000 in
theorem rcomment_any (l : List UInt8) (p s k : Nat) (w : World) (hp : p ≤ s) (hs : s ≤ l.length) (hl : l.length ≤ 1000000000) :
    Calls Tryd.prog 39 #[.string (str l), .int .i64 p, .int .i64 s, .int .i64 k] w (RTold w l p (Lx.rem k ((l.drop p).take (s - p)))) := by
  obtain ⟨t, ht⟩ : ∃ t, t = (l.take s).drop p := ⟨_, rfl⟩
  have htl : t.length = s - p := by rw [ht, List.length_drop, List.length_take]; omega
  have ht2 : (l.drop p).take (s - p) = t := by rw [ht, List.drop_take]
  have hone := fun j w => one_any (l.take s) (p + j) w
  have hdj : ∀ j, (l.take s).drop (p + j) = t.drop j := fun j => by rw [ht, List.drop_drop]
  have hls : (l.take s).length = s := by rw [List.length_take]; omega
  rw [ht2]
  have hone2 : ∀ (j : Nat) (w : World), p + j ≤ s → Calls Tryd.prog 57 #[.string (str (l.take s)), .int .i64 ((p + j : Nat) : Int)] w fun e w' => e = .returned (.tuple #[.int .i64 (Utf.next (t.drop j)).1, .int .i64 (Utf.next (t.drop j)).2]) ∧ Below w.heap.size w w' := fun j w h => by
    rw [← hdj j]
    exact hone j w (by omega) (by omega)
  have d0 : 0 ≤ (s : Int) ∧ (s : Int) ≤ l.length := by omega
  have HC : Hid (Lx.chk t = Lx.chkA (t.drop 0) 0) := rfl
  have HT := Lib.hid ht2
  clear hone hdj hls ht ht2
  go_enter Tryd.func39, Tryd.ntmps39
  go_wp2
  go_loopg [9] (t.length) (fun g iv wr => ∃ (j d : Nat) (os : Array Obj), g = t.length - j ∧ iv = .int .i64 ((p + j : Nat) : Int) ∧ j ≤ t.length ∧ Hid (Lx.chk t = Lx.chkA (t.drop j) j) ∧ wr = later (w.alloc (.cells #[.slice none 0 0, .int .i64 0, .int .i64 0] 28)) d os)
  case atStart => exact ⟨0, w.drawn, #[], rfl, by simp, Nat.zero_le _, HC, (laterz _).symm⟩
  case round =>
    obtain ⟨j, d, os, rfl, rfl, hj, HJ, rfl⟩ := hrel
    clear HC
    obtain ⟨i, hi⟩ : ∃ i : Nat, i = p + j := ⟨_, rfl⟩
    have hone3 := hone2 j
    rw [← hi] at hone3 ⊢
    clear hone2
    by_cases hlt : j < t.length
    · have d1 : (i : Int) < s := by omega
      have hne : t.drop j ≠ [] := fun h => by have := congrArg List.length h; rw [List.length_drop] at this; simp at this; omega
      have hch := Lx.chkA_ne (p := j) hne
      have hle := Utf.next_le (l := t.drop j)
      rw [List.length_drop] at hle
      obtain ⟨c, n, hcn⟩ : ∃ c n, Utf.next (t.drop j) = (c, n) := ⟨_, _, rfl⟩
      rw [hcn] at hone3 hle hch
      rw [List.drop_drop] at hch
      simp only at hone3 hle hch
      have HCH : Hid (Lx.chk t = if n = 0 then (j, 7) else if Lx.low (c, n).swap = true then (j, 3) else Lx.chkA (t.drop (j + n)) (j + n)) := HJ.out.trans hch
      clear hch hcn HJ hne
      by_cases hz : n = 0
      · have HR : Hid (Lx.rem k t = ⟨0, 0, j, 7⟩) := by
          have h1 := HCH.out
          rw [if_pos hz] at h1
          exact rem_bad h1 (by decide)
        clear HCH
        subst hz
        have HI := Lib.hid hi
        clear hi
        go_wp2_with fail
        refine (hone3 _ (by have := HI.out; omega)).mono ?_
        rintro e w2 ⟨rfl, hB⟩
        obtain ⟨d2, o2, rfl⟩ := later_of_below hB
        clear hB hone3
        go_wp2
        go_returns
        have h2 : (i : Int) = ((p + j : Nat) : Int) := by rw [HI.out]
        rw [HR.out, h2]
        exact RTold.bad _ (by simp) (by (repeat' (first | (with_reducible exact Below.refl _ _) | (with_reducible assumption) | (with_reducible refine below_later' ?_ ?_ _ _) | (with_reducible refine Below.alloc ?_ ?_ _) | (with_reducible refine Below.setCell ?_ ?_ _) | (with_reducible refine Below.drew ?_) | (with_reducible refine below_drewN ?_ _) | (with_reducible exact Nat.le_refl _) | omega | (simp; done) | (simp; omega))))
      · have hzb : ((n : Int) == 0) = false := by simp; omega
        have HX : Hid (Lx.low (c, n).swap = decide ((c : Int) < 32 ∧ (c : Int) ≠ 9)) := by
          show Lx.low (n, c) = _
          unfold Lx.low
          exact decide_eq_decide.2 (by omega)
        have hw1 : IntKind.i64.wrap ((i : Int) + n) = (i : Int) + n := IntWalk.i64_in _ (by omega)
        have HI := Lib.hid hi
        clear hi
        by_cases h1 : (c : Int) < 32 ∧ (c : Int) ≠ 9
        · have HR : Hid (Lx.rem k t = ⟨0, 0, j, 3⟩) := by
            have h2 := HCH.out
            rw [if_neg hz, if_pos (by rw [HX.out]; exact decide_eq_true h1)] at h2
            exact rem_bad h2 (by decide)
          obtain ⟨h1a, h1b⟩ := h1
          have hd2 : ((c : Int) != 9) = true := by simpa using h1b
          clear HCH HX h1b
          go_wp2_with fail
          refine (hone3 _ (by have := HI.out; omega)).mono ?_
          rintro e w2 ⟨rfl, hB⟩
          obtain ⟨d2, o2, rfl⟩ := later_of_below hB
          clear hB hone3
          go_wp2
          go_returns
          have h2 : (i : Int) = ((p + j : Nat) : Int) := by rw [HI.out]
          rw [HR.out, h2]
          exact RTold.bad _ (by simp) (by (repeat' (first | (with_reducible exact Below.refl _ _) | (with_reducible assumption) | (with_reducible refine below_later' ?_ ?_ _ _) | (with_reducible refine Below.alloc ?_ ?_ _) | (with_reducible refine Below.setCell ?_ ?_ _) | (with_reducible refine Below.drew ?_) | (with_reducible refine below_drewN ?_ _) | (with_reducible exact Nat.le_refl _) | omega | (simp; done) | (simp; omega))))
        · have HR : Hid (Lx.chk t = Lx.chkA (t.drop (j + n)) (j + n)) := by
            have h2 := HCH.out
            rw [if_neg hz, if_neg (by rw [HX.out, decide_eq_false h1]; simp)] at h2
            exact h2
          clear HCH HX
          by_cases h2 : (c : Int) < 32
          · have h9 : (c : Int) = 9 := Decidable.byContradiction fun h => h1 ⟨h2, h⟩
            have hd2 : ((c : Int) != 9) = false := by simpa using h9
            clear h1 h9
            go_wp2_with fail
            refine (hone3 _ (by have := HI.out; omega)).mono ?_
            rintro e w2 ⟨rfl, hB⟩
            obtain ⟨d2, o2, rfl⟩ := later_of_below hB
            clear hB hone3
            go_wp2_with fail
            go_roundg (t.length - (j + n))
            case measure => omega
            case rel => exact ⟨j + n, _, _, rfl, by rw [HI.out]; exact congrArg (Value.int .i64) (by omega), by omega, HR, later_later _ _ _ _ _⟩
          · clear h1
            go_wp2_with fail
            refine (hone3 _ (by have := HI.out; omega)).mono ?_
            rintro e w2 ⟨rfl, hB⟩
            obtain ⟨d2, o2, rfl⟩ := later_of_below hB
            clear hB hone3
            go_wp2_with fail
            go_roundg (t.length - (j + n))
            case measure => omega
            case rel => exact ⟨j + n, _, _, rfl, by rw [HI.out]; exact congrArg (Value.int .i64) (by omega), by omega, HR, later_later _ _ _ _ _⟩
    · have d1 : ¬(i : Int) < s := by omega
      have HR : Hid (Lx.rem k t = ⟨k, t.length, 0, 0⟩) := by
        have h1 := HJ.out
        rw [List.drop_eq_nil_of_le (by omega), Lx.chkA_nil] at h1
        exact rem_good h1
      have e2 : 0 ≤ (p : Int) ∧ (p : Int) ≤ (s : Int) ∧ (s : Int) ≤ l.length := by omega
      have hsl : (l.drop p).take (s - p) = t := HT.out
      clear HJ hone3 hi
      go_wp2
      go_returns
      rw [HR.out]
      exact RTold.tok (w.heap.size + 1 + os.size) _ rfl (by rw [show (l.drop p).take t.length = t by rw [htl]; exact hsl]; exact Blk.newAt _ _ _ (by simp)) (by omega) (by (repeat' (first | (with_reducible exact Below.refl _ _) | (with_reducible assumption) | (with_reducible refine below_later' ?_ ?_ _ _) | (with_reducible refine Below.alloc ?_ ?_ _) | (with_reducible refine Below.setCell ?_ ?_ _) | (with_reducible refine Below.drew ?_) | (with_reducible refine below_drewN ?_ _) | (with_reducible exact Nat.le_refl _) | omega | (simp; done) | (simp; omega))))
end Go.Proofs.YthabfgpncebigaaDoor

/- Tokens as cells; append of tokens to a row of the call's own. -/
namespace Go.Proofs.YthabfgpncebigaaDoor
open Go.RowKit

def tokL (t : Lx.Tok) : List Value := [.int .i64 t.k, .string (str t.t), .int .i64 t.p]
def tokA (t : Lx.Tok) : Value := .agg (tokC t)
/-- Tokens, as cells. -/
def tval (l : List Lx.Tok) : List Value := l.flatMap tokL
theorem tval_append (a b : List Lx.Tok) : tval (a ++ b) = tval a ++ tval b := by simp [tval]
theorem tval_snoc (l : List Lx.Tok) (x : Lx.Tok) : tval (l ++ [x]) = tval l ++ tokL x := by simp [tval]
theorem tval_cons (l : List Lx.Tok) (x : Lx.Tok) : tval (x :: l) = tokL x ++ tval l := by simp [tval]
theorem tval_length (l : List Lx.Tok) : (tval l).length = l.length * 3 := by
  induction l with
  | nil => rfl
  | cons x l ih => rw [tval_cons, List.length_append, ih]; simp [tokL]; omega
theorem tval_one (l : List Lx.Tok) : ∀ u ∈ tval l, u.oneCell' = true := by
  intro u hu
  obtain ⟨x, _, hx⟩ := List.mem_flatMap.1 hu
  simp only [tokL, List.mem_cons, List.not_mem_nil, or_false] at hx
  rcases hx with rfl | rfl | rfl <;> rfl
theorem tval_get {l : List Lx.Tok} {k : Nat} (h : k < l.length) : (tval l)[k * 3]? = some (.int .i64 l[k].k) ∧ (tval l)[k * 3 + 1]? = some (.string (str l[k].t)) ∧ (tval l)[k * 3 + 2]? = some (.int .i64 l[k].p) := by
  induction l generalizing k with
  | nil => simp at h
  | cons x l ih =>
    cases k with
    | zero => exact ⟨rfl, rfl, rfl⟩
    | succ k =>
      have := ih (k := k) (by simpa using h)
      have e : tval (x :: l) = (.int .i64 x.k) :: (.string (str x.t)) :: (.int .i64 x.p) :: tval l := rfl
      rw [e, show (k + 1) * 3 = k * 3 + 1 + 1 + 1 by omega]
      simpa using this
theorem info_tok : (Tryd.prog.info? 33).map (fun i => (i.zero, i.size, i.bytes)) = some (some (.agg #[.int .i64 0, .string ⟨#[]⟩, .int .i64 0]), 3, 32) := by kernel_rfl
theorem wpList_app_tok {ops : Array Oper} {rest : List Oper} {o : Oper} {a : Act} {Q : Exit → Act → World → Prop} {w : World} (hgd : o.guard = none) (s x : Operand)
    (ho : o.op = .call { callee := .builtin .append, args := #[s, x], argTypes := #[23, 23] })
    (base : Nat) (xs news : List Lx.Tok) (A : Option Addr) (n c : Nat) (hown : w.ownsRow base 33 3 (.slice A n c) n (tval xs)) (hs : a.eval s = .slice A n c)
    (B : Option Addr) (m d : Nat) (hr : Rd w 3 B m d (tval news)) (hx : a.eval x = .slice B m d)
    (hbytes : (n + m) * 32 ≤ 140737488355328) (hbase : base ≤ w.heap.size) (k : Nat) (hk : n + m = k) (ys : List Lx.Tok) (hys : xs ++ news = ys)
    (h : ∀ A' c' w', w'.ownsRow base 33 3 (.slice A' k c') k (tval ys) → w.grownBy w' (Value.slice A n c).ownBlock → ((Value.slice A' k c').ownBlock = (Value.slice A n c).ownBlock ∨ (Value.slice A' k c').ownBlock = some w.heap.size) → wpList Tryd.prog ops Q rest (a.put o.dst (.slice A' k c')) w') : wpList Tryd.prog ops Q (o :: rest) a w := by
  obtain ⟨i0, hi, hz0, hz1, hz2⟩ := info_parts info_tok
  subst hys
  refine wpList_append_rd w hgd s x _ ho base 33 i0 _ 3 32 Tryd.underlying23 hi hz0 hz1 hz2 rfl (by omega) _ _ _ hown hs _ _ _ _ hr hx (tval_one _) (by unfold maxLen; omega) hbytes hbase k hk _ (tval_append _ _).symm ?_
  intro A' c' w' g1 g2 g3
  exact h A' c' w' g1 g2 g3
theorem rd_tok (w : World) (t : Lx.Tok) : Rd (w.alloc (.cells (tokC t) 33)) 3 (some ⟨w.heap.size, 0, none⟩) 1 1 (tval [t]) := Rd.newE w _ (tokL t) 3 rfl
theorem rd_tok_at (w : World) (t : Lx.Tok) (g : Nat) (hg : w.heap.size = g) : Rd (w.alloc (.cells (tokC t) 33)) 3 (some ⟨g, 0, none⟩) 1 1 (tval [t]) := by subst hg; exact rd_tok w t
end Go.Proofs.YthabfgpncebigaaDoor
