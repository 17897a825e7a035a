/- Numbers in plain Lean: how long a number's text is; the program's states say the same. No program in sight. Numbers in plain Lean: the parts of a number's text; what the number is; the two caps of a power say the same. No program in sight. num: what the library's calls in Parse give at a text of parts. No program in sight. ref06.Parse in plain Lean: its three loops, and that they give the number of the parts. No program in sight. num: kind, Scan. num: Right. num: Parse. tabulariumref06: digit, run. tabulariumref06: Scan. tabulariumref06: Right. tabulariumref06: Parse. -/
import Derived.Test.YthabfgpncebigaaDoorBA
import Derived.Lib.IndexMore
import Derived.Lib.IndexBytes
import Derived.Lib.IndexAny
import Derived.Lib.Strings
import Derived.Lib.TrimByte
import Derived.Lib.SlTrimSet
import Derived.Test.YthabfgpncebigaaDoorChecked
import Derived.Test.YthabfgpncebigaaDoorShelf
import Derived.Handy
import Derived.Outline
import Derived.Shelf.Strings.SlTrimAscii
import Derived.Laws.StructEq
import Derived.Laws.RangeString
import Derived.Laws.RangeAny
import Derived.LoopTactic
import Derived.Deep.Cut
import Derived.Deep.CutBlock
import Derived.Deep.CutRange

/- Numbers in plain Lean: how long a number's text is; the program's states say the same. No program in sight. -/
namespace Go.Proofs.YthabfgpncebigaaDoor.Nm

def dig (b : UInt8) : Bool := decide (48 ≤ b.toNat ∧ b.toNat ≤ 57)
/-- So many digits at the front. -/
def run : List UInt8 → Nat
  | [] => 0
  | b :: r => if dig b = true then run r + 1 else 0
/-- Does it begin with a digit, with this byte? -/
def hd (l : List UInt8) : Bool := match l with | [] => false | b :: _ => dig b
def hb (c : Nat) (l : List UInt8) : Bool := match l with | [] => false | b :: _ => decide (b.toNat = c)
def hE (l : List UInt8) : Bool := hb 101 l || hb 69 l
def hS (l : List UInt8) : Bool := hb 43 l || hb 45 l

/-- The power at the front, behind its e. -/
def powF (l : List UInt8) : Nat := if hS l = true then (if hd (l.drop 1) = true then 1 + run (l.drop 1) else 0) else if hd l = true then run l else 0
/-- An e and a power, or nothing. -/
def expF (l : List UInt8) : Nat := if hE l = true ∧ powF (l.drop 1) ≠ 0 then 1 + powF (l.drop 1) else 0
/-- A point and digits, or nothing. -/
def fracF (l : List UInt8) : Nat := if hb 46 l = true ∧ hd (l.drop 1) = true then 1 + run (l.drop 1) else 0
/-- What follows the whole part. -/
def restF (l : List UInt8) : Nat := fracF l + expF (l.drop (fracF l))
def wholeF (l : List UInt8) : Nat := if hd l = true then (if hb 48 l = true then 1 else run l) else 0
def scan (l : List UInt8) : Nat :=
  if hb 45 l = true then (if wholeF (l.drop 1) = 0 then 0 else 1 + wholeF (l.drop 1) + restF (l.drop (1 + wholeF (l.drop 1))))
  else if wholeF l = 0 then 0 else wholeF l + restF (l.drop (wholeF l))

theorem run_le (l : List UInt8) : run l ≤ l.length := by
  induction l with
  | nil => exact Nat.le_refl _
  | cons b r ih => unfold run; split <;> simp <;> omega
theorem run_pos {l : List UInt8} : run l ≠ 0 ↔ hd l = true := by
  cases l with
  | nil => simp [run, hd]
  | cons b r => unfold run hd; split <;> simp_all
theorem hb_drop {c : Nat} {l : List UInt8} (h : hb c l = true) : 1 ≤ l.length := by cases l <;> simp [hb] at h ⊢
theorem hd_len {l : List UInt8} (h : hd l = true) : 1 ≤ l.length := by cases l <;> simp [hd] at h ⊢
theorem powF_le (l : List UInt8) : powF l ≤ l.length := by
  unfold powF
  have h1 := run_le (l.drop 1)
  have h2 := run_le l
  rw [List.length_drop] at h1
  split
  · rename_i h
    split
    · rename_i h3; have := hd_len h3; rw [List.length_drop] at this; omega
    · omega
  · split <;> omega
theorem expF_le (l : List UInt8) : expF l ≤ l.length := by
  unfold expF
  have h1 := powF_le (l.drop 1)
  rw [List.length_drop] at h1
  split
  · omega
  · omega
theorem fracF_le (l : List UInt8) : fracF l ≤ l.length := by
  unfold fracF
  have h1 := run_le (l.drop 1)
  rw [List.length_drop] at h1
  split
  · rename_i h; have := hb_drop h.1; omega
  · omega
theorem restF_le (l : List UInt8) : restF l ≤ l.length := by
  unfold restF
  have h1 := fracF_le l
  have h2 := expF_le (l.drop (fracF l))
  rw [List.length_drop] at h2
  omega
theorem wholeF_le (l : List UInt8) : wholeF l ≤ l.length := by
  unfold wholeF
  have := run_le l
  split
  · rename_i h; have := hd_len h; split <;> omega
  · omega
theorem scan_le (l : List UInt8) : scan l ≤ l.length := by
  unfold scan
  have h1 := wholeF_le (l.drop 1)
  have h2 := restF_le (l.drop (1 + wholeF (l.drop 1)))
  have h3 := wholeF_le l
  have h4 := restF_le (l.drop (wholeF l))
  simp only [List.length_drop] at h1 h2 h3 h4
  split
  · rename_i h; have := hb_drop h; split <;> omega
  · split <;> omega

/-- A byte's kind, as the program has it; 6: none. -/
def kind (c : Nat) : Nat := if 49 ≤ c ∧ c ≤ 57 then 1 else if c = 48 then 0 else if c = 46 then 2 else if c = 101 ∨ c = 69 then 3 else if c = 43 then 4 else if c = 45 then 5 else 6
/-- The state behind a state, as the program's table has it. -/
def tab : List Nat := [2, 3, 0, 0, 0, 1, 2, 3, 0, 0, 0, 0, 0, 0, 4, 6, 0, 0, 3, 3, 4, 6, 0, 0, 5, 5, 0, 0, 0, 0, 5, 5, 0, 6, 0, 0, 8, 8, 0, 0, 7, 7, 8, 8, 0, 0, 0, 0, 8, 8, 0, 0, 0, 0]
def nxt (st k : Nat) : Nat := if k = 6 then 0 else tab.getD (st * 6 + k) 0
def good (st : Nat) : Bool := st == 2 || st == 3 || st == 5 || st == 8
/-- The program's scan from a state on. -/
def auto : Nat → Nat → Nat → List UInt8 → Nat
  | _, en, _, [] => en
  | st, en, i, b :: r => if nxt st (kind b.toNat) = 0 then en else auto (nxt st (kind b.toNat)) (if good (nxt st (kind b.toNat)) = true then i + 1 else en) (i + 1) r

theorem kfin : ∀ c : Fin 256, kind c.val ≤ 6 ∧ decide (48 ≤ c.val ∧ c.val ≤ 57) = (kind c.val == 0 || kind c.val == 1) ∧ decide (c.val = 46) = (kind c.val == 2) ∧ (decide (c.val = 101) || decide (c.val = 69)) = (kind c.val == 3) ∧
    decide (c.val = 43) = (kind c.val == 4) ∧ decide (c.val = 45) = (kind c.val == 5) ∧ decide (c.val = 48) = (kind c.val == 0) := by decide +kernel
theorem kfacts (b : UInt8) : kind b.toNat ≤ 6 ∧ dig b = (kind b.toNat == 0 || kind b.toNat == 1) ∧ decide (b.toNat = 46) = (kind b.toNat == 2) ∧ (decide (b.toNat = 101) || decide (b.toNat = 69)) = (kind b.toNat == 3) ∧
    decide (b.toNat = 43) = (kind b.toNat == 4) ∧ decide (b.toNat = 45) = (kind b.toNat == 5) ∧ decide (b.toNat = 48) = (kind b.toNat == 0) := kfin ⟨b.toNat, b.toNat_lt⟩
theorem k7 {k : Nat} (h : k ≤ 6) : k = 0 ∨ k = 1 ∨ k = 2 ∨ k = 3 ∨ k = 4 ∨ k = 5 ∨ k = 6 := by omega

theorem auto8 : ∀ (l : List UInt8) (i : Nat), auto 8 i i l = i + run l
  | [], i => rfl
  | b :: r, i => by
    have ih := auto8 r (i + 1)
    obtain ⟨h0, h1, h2, h3, h4, h5, h6⟩ := kfacts b
    rw [auto, run, h1]
    generalize kind b.toNat = k at *
    rcases k7 h0 with rfl | rfl | rfl | rfl | rfl | rfl | rfl <;> simp [nxt, tab, good, ih] <;> omega
theorem auto7 (l : List UInt8) (e i : Nat) : auto 7 e i l = if hd l = true then i + run l else e := by
  cases l with
  | nil => rfl
  | cons b r =>
    have ih := auto8 r (i + 1)
    obtain ⟨h0, h1, h2, h3, h4, h5, h6⟩ := kfacts b
    rw [auto, run, hd, h1]
    generalize kind b.toNat = k at *
    rcases k7 h0 with rfl | rfl | rfl | rfl | rfl | rfl | rfl <;> simp [nxt, tab, good, ih] <;> omega
theorem auto6 (l : List UInt8) (e i : Nat) : auto 6 e i l = if powF l ≠ 0 then i + powF l else e := by
  cases l with
  | nil => rfl
  | cons b r =>
    have i8 := auto8 r (i + 1)
    have i7 := auto7 r e (i + 1)
    have hr := run_pos (l := r)
    obtain ⟨h0, h1, h2, h3, h4, h5, h6⟩ := kfacts b
    rw [auto, powF, hS, hb, hb, hd, run, h1, h4, h5, List.drop_succ_cons, List.drop_zero]
    generalize kind b.toNat = k at *
    rcases k7 h0 with rfl | rfl | rfl | rfl | rfl | rfl | rfl <;> simp [nxt, tab, good, i8, i7] <;> (try split) <;> simp_all <;> omega
theorem autoE (l : List UInt8) (st i : Nat) (hst : st = 2 ∨ st = 3 ∨ st = 5) (hn : hd l = false ∨ st = 2) (hp : hb 46 l = false ∨ st = 5) : auto st i i l = i + expF l := by
  cases l with
  | nil => rfl
  | cons b r =>
    have i6 := auto6 r i (i + 1)
    obtain ⟨h0, h1, h2, h3, h4, h5, h6⟩ := kfacts b
    rw [auto, expF, hE, hb, hb, h3, List.drop_succ_cons, List.drop_zero]
    rw [hd, h1] at hn
    rw [hb, h2] at hp
    generalize kind b.toNat = k at *
    rcases hst with rfl | rfl | rfl <;> rcases k7 h0 with rfl | rfl | rfl | rfl | rfl | rfl | rfl <;> simp_all [nxt, tab, good] <;> (try split) <;> (try simp_all) <;> omega
theorem auto5 : ∀ (l : List UInt8) (i : Nat), auto 5 i i l = i + run l + expF (l.drop (run l))
  | [], i => rfl
  | b :: r, i => by
    cases h : hd (b :: r) with
    | false =>
      have hr : run (b :: r) = 0 := Decidable.byContradiction fun hn => by have := run_pos.1 hn; rw [h] at this; cases this
      rw [autoE (b :: r) 5 i (by simp) (.inl h) (.inr rfl), hr]
      simp
    | true =>
      have ih := auto5 r (i + 1)
      have hh : dig b = true := h
      obtain ⟨h0, h1, h2, h3, h4, h5, h6⟩ := kfacts b
      rw [auto, run, if_pos hh, List.drop_succ_cons]
      rw [hh] at h1
      generalize kind b.toNat = k at *
      rcases k7 h0 with rfl | rfl | rfl | rfl | rfl | rfl | rfl <;> simp [nxt, tab, good, ih] at h1 ⊢ <;> omega
theorem auto4 (l : List UInt8) (e i : Nat) : auto 4 e i l = if hd l = true then i + run l + expF (l.drop (run l)) else e := by
  cases l with
  | nil => rfl
  | cons b r =>
    have ih := auto5 r (i + 1)
    obtain ⟨h0, h1, h2, h3, h4, h5, h6⟩ := kfacts b
    rw [auto, run, hd, h1]
    generalize kind b.toNat = k at *
    rcases k7 h0 with rfl | rfl | rfl | rfl | rfl | rfl | rfl <;> simp [nxt, tab, good, ih] <;> omega
theorem autoR (l : List UInt8) (st i : Nat) (hst : st = 2 ∨ st = 3) (hn : hd l = false ∨ st = 2) : auto st i i l = i + restF l := by
  cases hp : hb 46 l with
  | false =>
    have hf : fracF l = 0 := by unfold fracF; rw [if_neg (by rw [hp]; simp)]
    rw [autoE l st i (by omega) hn (.inl hp), restF, hf]
    simp
  | true =>
    cases l with
    | nil => simp [hb] at hp
    | cons b r =>
      have i4 := auto4 r i (i + 1)
      have hx : expF (b :: r) = 0 := by
        unfold expF hE hb
        have h1 : b.toNat = 46 := of_decide_eq_true hp
        rw [if_neg]
        rintro ⟨h2, _⟩
        simp [h1] at h2
      obtain ⟨h0, h1, h2, h3, h4, h5, h6⟩ := kfacts b
      have h46 : decide (b.toNat = 46) = true := hp
      rw [auto, restF, fracF, hp, List.drop_succ_cons, List.drop_zero]
      rw [h46] at h2
      have hk : kind b.toNat = 2 := by simpa using h2.symm
      rw [hk]
      have hn4 : nxt st 2 = 4 := by rcases hst with rfl | rfl <;> rfl
      rw [hn4, if_neg (by decide), if_neg (by decide), i4]
      cases hr : hd r with
      | true =>
        simp only [and_self, if_true]
        rw [show (1 + run r) = run r + 1 by omega, List.drop_succ_cons]
        omega
      | false => simp [hx]
theorem auto3 : ∀ (l : List UInt8) (i : Nat), auto 3 i i l = i + run l + restF (l.drop (run l))
  | [], i => rfl
  | b :: r, i => by
    cases h : hd (b :: r) with
    | false =>
      have hr : run (b :: r) = 0 := Decidable.byContradiction fun hn => by have := run_pos.1 hn; rw [h] at this; cases this
      rw [autoR (b :: r) 3 i (by simp) (.inl h), hr]
      simp
    | true =>
      have ih := auto3 r (i + 1)
      have hh : dig b = true := h
      obtain ⟨h0, h1, h2, h3, h4, h5, h6⟩ := kfacts b
      rw [auto, run, if_pos hh, List.drop_succ_cons]
      rw [hh] at h1
      generalize kind b.toNat = k at *
      rcases k7 h0 with rfl | rfl | rfl | rfl | rfl | rfl | rfl <;> simp [nxt, tab, good, ih] at h1 ⊢ <;> omega
theorem auto1 (l : List UInt8) (st e i : Nat) (hst : st = 1 ∨ (st = 0 ∧ hb 45 l = false)) : auto st e i l = if wholeF l = 0 then e else i + wholeF l + restF (l.drop (wholeF l)) := by
  cases l with
  | nil => rfl
  | cons b r =>
    have i3 := auto3 r (i + 1)
    have i2 := autoR r 2 (i + 1) (by simp) (.inr rfl)
    obtain ⟨h0, h1, h2, h3, h4, h5, h6⟩ := kfacts b
    rw [hb, h5] at hst
    rw [auto, wholeF, hd, hb, run, h1, h6]
    generalize kind b.toNat = k at *
    rcases hst with rfl | ⟨rfl, h5'⟩ <;> rcases k7 h0 with rfl | rfl | rfl | rfl | rfl | rfl | rfl <;> simp_all [nxt, tab, good] <;> omega
/-- The program's states say the same. -/
theorem auto_scan (l : List UInt8) : auto 0 0 0 l = scan l := by
  unfold scan
  cases h : hb 45 l with
  | false =>
    rw [auto1 l 0 0 0 (.inr ⟨rfl, h⟩)]
    simp
  | true =>
    cases l with
    | nil => simp [hb] at h
    | cons b r =>
      have i1 := auto1 r 1 0 1 (.inl rfl)
      obtain ⟨h0, h1, h2, h3, h4, h5, h6⟩ := kfacts b
      have h45 : decide (b.toNat = 45) = true := h
      rw [h45] at h5
      have hk : kind b.toNat = 5 := by simpa using h5.symm
      rw [auto, hk, show nxt 0 5 = 1 from rfl, if_neg (by decide), if_neg (by decide), i1, List.drop_succ_cons, List.drop_zero, if_pos rfl]
      split
      · rfl
      · rw [show 1 + wholeF r = wholeF r + 1 by omega, List.drop_succ_cons]
end Go.Proofs.YthabfgpncebigaaDoor.Nm

/- Numbers in plain Lean: the parts of a number's text; what the number is; the two caps of a power say the same. No program in sight. -/
namespace Go.Proofs.YthabfgpncebigaaDoor.Nm

/-- All digits. -/
def Digs (l : List UInt8) : Prop := ∀ b, b ∈ l → dig b = true
theorem digs_nil : Digs [] := fun _ h => absurd h (List.not_mem_nil)
theorem digs_cons {b : UInt8} {l : List UInt8} : Digs (b :: l) ↔ dig b = true ∧ Digs l := by
  unfold Digs; simp
theorem Digs.app {a b : List UInt8} (h : Digs a) (h2 : Digs b) : Digs (a ++ b) := fun x hx => (List.mem_append.1 hx).elim (h x) (h2 x)
theorem run_digs : ∀ l : List UInt8, run l = l.length → Digs l
  | [], _ => digs_nil
  | b :: r, h => by
    unfold run at h
    split at h
    · rename_i hb; exact digs_cons.2 ⟨hb, run_digs r (by simpa using h)⟩
    · simp at h
theorem run_take : ∀ l : List UInt8, Digs (l.take (run l))
  | [] => digs_nil
  | b :: r => by
    unfold run
    split
    · rename_i hb; rw [List.take_succ_cons]; exact digs_cons.2 ⟨hb, run_take r⟩
    · exact digs_nil
theorem digs_run {l : List UInt8} (h : Digs l) : run l = l.length := by
  induction l with
  | nil => rfl
  | cons b r ih => have h2 := digs_cons.1 h; unfold run; rw [if_pos h2.1, ih h2.2]; rfl

/-- A number's text by its parts. -/
structure Parts where
  ng : Bool
  W : List UInt8
  fo : Bool
  f : List UInt8
  eo : Bool
  e : UInt8
  sn : List UInt8
  d : List UInt8
/-- The text of parts: in front of the power, and the power. -/
def Parts.sg (p : Parts) : List UInt8 := if p.ng then [45] else []
def Parts.fr (p : Parts) : List UInt8 := if p.fo then 46 :: p.f else []
def Parts.ex (p : Parts) : List UInt8 := if p.eo then p.sn ++ p.d else []
def Parts.exE (p : Parts) : List UInt8 := if p.eo then p.e :: (p.sn ++ p.d) else []
def Parts.text (p : Parts) : List UInt8 := p.sg ++ (p.W ++ (p.fr ++ p.exE))
structure Parts.Ok (p : Parts) : Prop where
  w0 : p.W ≠ []
  w : Digs p.W
  f : Digs p.f
  fo : p.fo = false → p.f = []
  e : p.e = 101 ∨ p.e = 69
  sn : p.sn = [] ∨ p.sn = [43] ∨ p.sn = [45]
  d : Digs p.d
  eo : p.eo = false → p.d = [] ∧ p.sn = []

theorem powF_parts {l : List UInt8} (h : powF l = l.length) : ∃ sn d, l = sn ++ d ∧ (sn = [] ∨ sn = [43] ∨ sn = [45]) ∧ Digs d := by
  unfold powF at h
  split at h
  · rename_i hs
    cases l with
    | nil => simp [hS, hb] at hs
    | cons b r =>
      rw [List.drop_succ_cons, List.drop_zero] at h
      split at h
      · refine ⟨[b], r, rfl, ?_, run_digs r (by simp at h; omega)⟩
        simp only [hS, hb, Bool.or_eq_true, decide_eq_true_eq] at hs
        rcases hs with hs | hs
        · exact .inr (.inl (by rw [show b = 43 from UInt8.toNat_inj.1 hs]))
        · exact .inr (.inr (by rw [show b = 45 from UInt8.toNat_inj.1 hs]))
      · simp at h
  · split at h
    · exact ⟨[], l, rfl, .inl rfl, run_digs l h⟩
    · exact ⟨[], l, rfl, .inl rfl, by rw [List.eq_nil_of_length_eq_zero h.symm]; exact digs_nil⟩
theorem expF_parts {l : List UInt8} (h : expF l = l.length) : ∃ (eo : Bool) (e : UInt8) (sn d : List UInt8), l = (if eo then e :: (sn ++ d) else []) ∧ (e = 101 ∨ e = 69) ∧ (sn = [] ∨ sn = [43] ∨ sn = [45]) ∧ Digs d ∧ (eo = false → d = [] ∧ sn = []) := by
  unfold expF at h
  split at h
  · rename_i hh
    cases l with
    | nil => simp [hE, hb] at hh
    | cons b r =>
      rw [List.drop_succ_cons, List.drop_zero] at h
      obtain ⟨sn, d, rfl, h1, h2⟩ := powF_parts (l := r) (by simp at h; omega)
      refine ⟨true, b, sn, d, rfl, ?_, h1, h2, by simp⟩
      have := hh.1
      simp only [hE, hb, Bool.or_eq_true, decide_eq_true_eq] at this
      rcases this with hs | hs
      · exact .inl (UInt8.toNat_inj.1 hs)
      · exact .inr (UInt8.toNat_inj.1 hs)
  · exact ⟨false, 101, [], [], List.eq_nil_of_length_eq_zero h.symm, .inl rfl, .inl rfl, digs_nil, fun _ => ⟨rfl, rfl⟩⟩
theorem restF_parts {l : List UInt8} (h : restF l = l.length) : ∃ (fo : Bool) (f : List UInt8) (eo : Bool) (e : UInt8) (sn d : List UInt8), l = (if fo then 46 :: f else []) ++ (if eo then e :: (sn ++ d) else []) ∧ Digs f ∧ (fo = false → f = []) ∧
    (e = 101 ∨ e = 69) ∧ (sn = [] ∨ sn = [43] ∨ sn = [45]) ∧ Digs d ∧ (eo = false → d = [] ∧ sn = []) := by
  unfold restF at h
  have hx : expF (l.drop (fracF l)) = (l.drop (fracF l)).length := by
    have h1 := expF_le (l.drop (fracF l)); have h2 := fracF_le l; rw [List.length_drop] at h1 ⊢; omega
  obtain ⟨eo, e, sn, d, h1, h2, h3, h4, h5⟩ := expF_parts hx
  by_cases hh : hb 46 l = true ∧ hd (l.drop 1) = true
  · cases l with
    | nil => simp [hb] at hh
    | cons b r =>
      have hf : fracF (b :: r) = run r + 1 := by unfold fracF; rw [if_pos hh, List.drop_succ_cons, List.drop_zero]; omega
      rw [hf, List.drop_succ_cons] at h1
      refine ⟨true, r.take (run r), eo, e, sn, d, ?_, run_take r, by simp, h2, h3, h4, h5⟩
      have hb46 : b = 46 := UInt8.toNat_inj.1 (of_decide_eq_true hh.1)
      rw [← h1, if_pos rfl, hb46, List.cons_append, List.take_append_drop]
  · have hf : fracF l = 0 := by unfold fracF; rw [if_neg hh]
    rw [hf, List.drop_zero] at h1
    exact ⟨false, [], eo, e, sn, d, by rw [h1]; rfl, digs_nil, fun _ => rfl, h2, h3, h4, h5⟩
theorem wholeF_take (l : List UInt8) : Digs (l.take (wholeF l)) := by
  unfold wholeF
  split
  · rename_i h
    split
    · cases l with
      | nil => simp [hd] at h
      | cons b r => rw [List.take_succ_cons, List.take_zero]; exact digs_cons.2 ⟨h, digs_nil⟩
    · exact run_take l
  · exact digs_nil
/-- A text that is a number's as a whole has parts. -/
theorem scan_parts {l : List UInt8} (h : scan l = l.length) (h0 : l ≠ []) : ∃ p : Parts, p.Ok ∧ l = p.text := by
  have key : ∀ r : List UInt8, wholeF r ≠ 0 → wholeF r + restF (r.drop (wholeF r)) = r.length → ∀ ng : Bool, ∃ p : Parts, p.Ok ∧ (if ng then [45] else []) ++ r = p.text := by
    intro r hw hr ng
    have hl := wholeF_le r
    obtain ⟨fo, f, eo, e, sn, d, h1, h2, h3, h4, h5, h6, h7⟩ := restF_parts (l := r.drop (wholeF r)) (by rw [List.length_drop]; omega)
    refine ⟨⟨ng, r.take (wholeF r), fo, f, eo, e, sn, d⟩, ⟨?_, wholeF_take r, h2, h3, h4, h5, h6, h7⟩, ?_⟩
    · intro hn
      have := congrArg List.length hn
      rw [List.length_take, Nat.min_eq_left hl] at this
      exact hw this
    · simp only [Parts.text, Parts.sg, Parts.fr, Parts.exE]
      rw [← h1, List.take_append_drop]
  have hlen : l.length ≠ 0 := fun hn => h0 (List.eq_nil_of_length_eq_zero hn)
  unfold scan at h
  split at h
  · rename_i hm
    cases l with
    | nil => exact absurd rfl h0
    | cons b r =>
      rw [List.drop_succ_cons, List.drop_zero] at h
      split at h
      · simp at h
      · rename_i hw
        rw [show 1 + wholeF r = wholeF r + 1 by omega, List.drop_succ_cons] at h
        obtain ⟨p, hp, ht⟩ := key r hw (by simp at h; omega) true
        have hb45 : b = 45 := UInt8.toNat_inj.1 (of_decide_eq_true hm)
        exact ⟨p, hp, by rw [← ht, hb45]; rfl⟩
  · split at h
    · omega
    · rename_i hw
      obtain ⟨p, hp, ht⟩ := key l hw h false
      exact ⟨p, hp, ht⟩

/-- A number: below 0?, its digits, its power. -/
structure Nu where
  ng : Bool
  ds : List UInt8
  ex : Int
deriving DecidableEq
def Nu.zero : Nu := ⟨false, [], 0⟩
def right (n : Nu) : Bool := if n.ds = [] then decide (n = Nu.zero) else
  decide (n.ds.length ≤ 1000) && (n.ds.all dig && (!(n.ds.getD 0 0 == 48) && (!(n.ds.getD (n.ds.length - 1) 0 == 48) && (decide (n.ex ≤ 10000) && decide (-10000 ≤ n.ex)))))
def lz (l : List UInt8) : List UInt8 := l.dropWhile (· == 48)
def tz (l : List UInt8) : List UInt8 := (l.reverse.dropWhile (· == 48)).reverse
/-- A power's value, and as the program and the document cap it. -/
def val (a : Nat) : List UInt8 → Nat
  | [] => a
  | b :: r => val (10 * a + (b.toNat - 48)) r
@[irreducible] def stp (a : Nat) (b : UInt8) : Nat := min (10 * a + (b.toNat - 48)) 1099511627776
def valP (a : Nat) : List UInt8 → Nat
  | [] => a
  | b :: r => valP (stp a b) r
@[irreducible] def str9 (a : Nat) (b : UInt8) : Nat := if a < 1000000000 then a * 10 + (b.toNat - 48) else a
def valR (a : Nat) : List UInt8 → Nat
  | [] => a
  | b :: r => valR (str9 a b) r
theorem valP_nil (a : Nat) : valP a [] = a := rfl
theorem valR_nil (a : Nat) : valR a [] = a := rfl
theorem valP_cons (a : Nat) (b : UInt8) (r : List UInt8) : valP a (b :: r) = valP (stp a b) r := rfl
theorem valR_cons (a : Nat) (b : UInt8) (r : List UInt8) : valR a (b :: r) = valR (str9 a b) r := rfl
theorem str9_lt {a : Nat} (b : UInt8) (h : a < 1000000000) : str9 a b = a * 10 + (b.toNat - 48) := by unfold str9; exact if_pos h
theorem str9_ge {a : Nat} (b : UInt8) (h : ¬a < 1000000000) : str9 a b = a := by unfold str9; exact if_neg h
/-- What the number of parts is, the power's value given. -/
def numB (p : Parts) (v : Nat) : Nu × Nat :=
  let all := lz (p.W ++ p.f)
  let n : Nu := ⟨p.ng, tz all, -(p.f.length : Int) + (if p.sn = [45] then -(v : Int) else v) + (all.length - (tz all).length)⟩
  if tz all = [] then (Nu.zero, 0) else if right n = true then (n, 0) else (Nu.zero, 4)

theorem dig_le {b : UInt8} (h : dig b = true) : b.toNat - 48 ≤ 9 ∧ 48 ≤ b.toNat := by unfold dig at h; have := of_decide_eq_true h; omega
theorem valP_mono : ∀ (l : List UInt8) (a a' : Nat), a ≤ a' → valP a l ≤ valP a' l
  | [], _, _, h => h
  | b :: r, a, a', h => valP_mono r _ _ (by unfold stp; omega)
theorem valP_snoc : ∀ (l : List UInt8) (a : Nat) (b : UInt8), valP a (l ++ [b]) = stp (valP a l) b
  | [], _, _ => rfl
  | c :: l, a, b => valP_snoc l (stp a c) b
theorem valP_ge : ∀ (l : List UInt8) (a : Nat), 1000000000 ≤ a → 1000000000 ≤ valP a l
  | [], _, h => h
  | b :: r, a, h => valP_ge r _ (by unfold stp; omega)
theorem valP_le : ∀ (l : List UInt8) (a : Nat), a ≤ 1099511627776 → valP a l ≤ 1099511627776
  | [], _, h => h
  | _ :: r, _, _ => valP_le r _ (by unfold stp; exact Nat.min_le_right _ _)
theorem valR_ge : ∀ (l : List UInt8) (a : Nat), 1000000000 ≤ a → valR a l = a
  | [], _, _ => rfl
  | b :: r, a, h => by rw [valR_cons, str9_ge b (by omega)]; exact valR_ge r a h
theorem valR_le (l : List UInt8) : ∀ a : Nat, Digs l → a ≤ 10000000000 → valR a l ≤ 10000000000 := by
  induction l with
  | nil => exact fun _ _ h => h
  | cons b r ih =>
    intro a hd h
    have h9 := (dig_le (digs_cons.1 hd).1).1
    rw [valR_cons]
    refine ih _ (digs_cons.1 hd).2 ?_
    by_cases h1 : a < 1000000000
    · rw [str9_lt b h1]; omega
    · rw [str9_ge b h1]; exact h
/-- The caps: below them the same, else both far. -/
theorem caps (l : List UInt8) : ∀ a : Nat, Digs l → (valP a l = valR a l ∧ valR a l < 1000000000) ∨ (1000000000 ≤ valP a l ∧ 1000000000 ≤ valR a l) := by
  induction l with
  | nil =>
    intro a _
    rw [valP_nil, valR_nil]
    by_cases h : a < 1000000000
    · exact .inl ⟨rfl, h⟩
    · exact .inr ⟨Nat.le_of_not_lt h, Nat.le_of_not_lt h⟩
  | cons b r ih =>
    intro a hd
    have h9 := dig_le (digs_cons.1 hd).1
    rw [valP_cons, valR_cons]
    by_cases ha : a < 1000000000
    · rw [str9_lt b ha, show stp a b = a * 10 + (b.toNat - 48) by unfold stp; omega]
      exact ih _ (digs_cons.1 hd).2
    · rw [str9_ge b ha, valR_ge r a (by omega)]
      exact .inr ⟨valP_ge r _ (by unfold stp; omega), Nat.le_of_not_lt ha⟩
theorem tz_le (l : List UInt8) : (tz l).length ≤ l.length := by
  unfold tz
  rw [List.length_reverse]
  have := (List.dropWhile_sublist (l := l.reverse) (· == 48)).length_le
  rwa [List.length_reverse] at this
theorem lz_le (l : List UInt8) : (lz l).length ≤ l.length := (List.dropWhile_sublist (l := l) (· == 48)).length_le
theorem right_far {n : Nu} (h0 : n.ds ≠ []) (h : n.ex < -10000 ∨ 10000 < n.ex) : right n = false := by
  unfold right
  rw [if_neg h0]
  rcases h with h | h
  · rw [show decide (-10000 ≤ n.ex) = false from decide_eq_false (by omega)]; simp
  · rw [show decide (n.ex ≤ 10000) = false from decide_eq_false (by omega)]; simp
/-- The two caps give the same number. -/
theorem numB_caps (p : Parts) (hp : p.Ok) (hl : p.W.length + p.f.length ≤ 100000000) : numB p (valP 0 p.d) = numB p (valR 0 p.d) := by
  rcases caps p.d 0 hp.d with ⟨h, _⟩ | ⟨h1, h2⟩
  · rw [h]
  · have ha := lz_le (p.W ++ p.f)
    have hb := tz_le (lz (p.W ++ p.f))
    rw [List.length_append] at ha
    unfold numB
    simp only
    split
    · rfl
    · rename_i h0
      rw [right_far h0 (by simp only; split <;> omega), right_far h0 (by simp only; split <;> omega)]; rfl
end Go.Proofs.YthabfgpncebigaaDoor.Nm

/- num: what the library's calls in Parse give at a text of parts. No program in sight. -/
namespace Go.Proofs.YthabfgpncebigaaDoor.Nm

theorem indexByte_none' : ∀ (a : List UInt8) (c : UInt8), c ∉ a → Lib.indexByte a c = -1
  | [], _, _ => rfl
  | b :: a, c, h => by
    have h2 : ¬b = c := fun e => h (by rw [e]; exact List.mem_cons_self)
    rw [Lib.indexByte, if_neg (by simpa using h2), indexByte_none' a c (fun hm => h (List.mem_cons_of_mem _ hm))]
    rfl
theorem indexByte_at : ∀ (a : List UInt8) (c : UInt8) (r : List UInt8), c ∉ a → Lib.indexByte (a ++ c :: r) c = a.length
  | [], c, r, _ => by simp [Lib.indexByte]
  | b :: a, c, r, h => by
    have h2 : ¬b = c := fun e => h (by rw [e]; exact List.mem_cons_self)
    have ih := indexByte_at a c r (fun hm => h (List.mem_cons_of_mem _ hm))
    rw [List.cons_append, Lib.indexByte, if_neg (by simpa using h2), ih, if_neg (by simp), List.length_cons]
    omega
theorem cut_none (a : List UInt8) (c : UInt8) (h : c ∉ a) : Lib.cut a [c] = (a, [], false) := by
  unfold Lib.cut
  rw [Lib.index_one, indexByte_none' a c h, if_neg (by omega)]
theorem cut_at (a r : List UInt8) (c : UInt8) (h : c ∉ a) : Lib.cut (a ++ c :: r) [c] = (a, r, true) := by
  unfold Lib.cut
  rw [Lib.index_one, indexByte_at a c r h, if_pos (by omega), Int.toNat_natCast, List.length_singleton]
  simp
theorem indexAny_none' : ∀ (a cs : List UInt8), (∀ b, b ∈ a → cs.contains b = false) → Lib.indexAny a cs = -1
  | [], _, _ => rfl
  | b :: a, cs, h => by
    rw [Lib.indexAny, if_neg (by rw [h b List.mem_cons_self]; simp), indexAny_none' a cs (fun x hm => h x (List.mem_cons_of_mem _ hm))]
    rfl
theorem indexAny_at : ∀ (a cs : List UInt8) (c : UInt8) (r : List UInt8), (∀ b, b ∈ a → cs.contains b = false) → cs.contains c = true → Lib.indexAny (a ++ c :: r) cs = a.length
  | [], cs, c, r, _, hc => by rw [List.nil_append, Lib.indexAny, if_pos hc]; rfl
  | b :: a, cs, c, r, h, hc => by
    have ih := indexAny_at a cs c r (fun x hm => h x (List.mem_cons_of_mem _ hm)) hc
    rw [List.cons_append, Lib.indexAny, if_neg (by rw [h b List.mem_cons_self]; simp), ih, if_neg (by simp), List.length_cons]
    omega
theorem trimS_id (sn d cs : List UInt8) (hs : ∀ b, b ∈ sn → cs.contains b = true) (hd : ∀ b, b ∈ d → cs.contains b = false) : Lib.trimS (sn ++ d) cs = d := by
  have drp : ∀ (x y : List UInt8), (∀ b, b ∈ x → cs.contains b = true) → (x ++ y).dropWhile (cs.contains ·) = y.dropWhile (cs.contains ·) := by
    intro x y h
    induction x with
    | nil => rfl
    | cons b x ih => rw [List.cons_append, List.dropWhile_cons_of_pos (h b List.mem_cons_self)]; exact ih fun z hz => h z (List.mem_cons_of_mem _ hz)
  have stay : ∀ (x y : List UInt8), (∀ b, b ∈ x → cs.contains b = false) → x ≠ [] → (x ++ y).dropWhile (cs.contains ·) = x ++ y := by
    intro x y h h0
    cases x with
    | nil => exact absurd rfl h0
    | cons b x => rw [List.cons_append, List.dropWhile_cons_of_neg (by rw [h b List.mem_cons_self]; simp)]
  unfold Lib.trimS Lib.trimLeftS Lib.trimRightS
  by_cases h0 : d = []
  · subst h0
    rw [List.append_nil]
    have := drp sn.reverse [] (fun b hb => hs b (List.mem_reverse.1 hb))
    rw [List.append_nil] at this
    rw [this]; rfl
  · have h1 := stay d.reverse sn.reverse (fun b hb => hd b (List.mem_reverse.1 hb)) (by simpa using h0)
    rw [List.reverse_append, h1, List.reverse_append, List.reverse_reverse, List.reverse_reverse, drp sn d hs]
    have h2 := stay d [] hd h0
    rwa [List.append_nil] at h2

theorem dig_ne {b : UInt8} (h : dig b = true) : b ≠ 45 ∧ b ≠ 46 ∧ [101, 69].contains b = false ∧ [43, 45].contains b = false := by
  have h2 : ∀ c : Fin 256, dig (UInt8.ofNat c.val) = true → UInt8.ofNat c.val ≠ 45 ∧ UInt8.ofNat c.val ≠ 46 ∧ [101, 69].contains (UInt8.ofNat c.val) = false ∧ [43, 45].contains (UInt8.ofNat c.val) = false := by decide +kernel
  have := h2 ⟨b.toNat, b.toNat_lt⟩
  simp only [UInt8.ofNat_toNat] at this
  exact this h
section
variable (p : Parts) (hp : p.Ok)
include hp
theorem P_prefix : Lib.hasPrefix p.text [45] = p.ng := by
  unfold Lib.hasPrefix Parts.text Parts.sg
  cases h : p.ng
  · cases hw : p.W with
    | nil => exact absurd hw hp.w0
    | cons b r =>
      have := (dig_ne ((digs_cons.1 (hw ▸ hp.w)).1)).1
      simp [List.isPrefixOf, this.symm]
  · simp [List.isPrefixOf]
theorem P_trim : Lib.trimPrefix p.text [45] = p.W ++ (p.fr ++ p.exE) := by
  unfold Lib.trimPrefix
  rw [P_prefix p hp]
  unfold Parts.text Parts.sg
  cases p.ng <;> simp
theorem P_noE : ∀ b, b ∈ p.W ++ p.fr → [101, 69].contains b = false := by
  intro b hb
  rcases List.mem_append.1 hb with h | h
  · exact (dig_ne (hp.w b h)).2.2.1
  · unfold Parts.fr at h
    split at h
    · rcases List.mem_cons.1 h with rfl | h
      · rfl
      · exact (dig_ne (hp.f b h)).2.2.1
    · exact absurd h List.not_mem_nil
theorem P_any : Lib.indexAny (p.W ++ (p.fr ++ p.exE)) [101, 69] = if p.eo then ((p.W ++ p.fr).length : Int) else -1 := by
  rw [← List.append_assoc]
  unfold Parts.exE
  cases p.eo
  · rw [if_neg (by simp), if_neg (by simp), List.append_nil]; exact indexAny_none' _ _ (P_noE p hp)
  · rw [if_pos rfl, if_pos rfl]; exact indexAny_at _ _ _ _ (P_noE p hp) (by rcases hp.e with h | h <;> rw [h] <;> rfl)
theorem P_cut : Lib.cut (p.W ++ p.fr) [46] = (p.W, p.f, p.fo) := by
  have hn : (46 : UInt8) ∉ p.W := fun h => (dig_ne (hp.w 46 h)).2.1 rfl
  unfold Parts.fr
  cases h : p.fo
  · rw [if_neg (by simp), List.append_nil, cut_none _ _ hn, hp.fo h]
  · rw [if_pos rfl, cut_at _ _ _ hn]
theorem P_down : Lib.hasPrefix p.ex [45] = decide (p.sn = [45]) := by
  unfold Lib.hasPrefix Parts.ex
  have hd : ∀ d, Digs d → [45].isPrefixOf d = false := by
    intro d h
    cases d with
    | nil => rfl
    | cons b r => have := (dig_ne (digs_cons.1 h).1).1; simp [List.isPrefixOf, this.symm]
  cases h : p.eo
  · rw [(hp.eo h).2]; rfl
  · rw [if_pos rfl]
    rcases hp.sn with h2 | h2 | h2 <;> rw [h2]
    · rw [List.nil_append, hd _ hp.d]; rfl
    · simp [List.isPrefixOf]
    · simp [List.isPrefixOf]
theorem P_ds : Lib.trimS p.ex [43, 45] = p.d := by
  unfold Parts.ex
  cases h : p.eo
  · rw [(hp.eo h).1]; rfl
  · rw [if_pos rfl]
    refine trimS_id _ _ _ ?_ fun b hb => (dig_ne (hp.d b hb)).2.2.2
    rcases hp.sn with h2 | h2 | h2 <;> rw [h2] <;> intro b hb
    · exact absurd hb List.not_mem_nil
    · rw [List.mem_singleton.1 hb]; rfl
    · rw [List.mem_singleton.1 hb]; rfl
theorem P_ascii : ∀ b, b ∈ p.W ++ (p.fr ++ p.exE) → b.toNat < 128 := by
  have hd : ∀ b, dig b = true → b.toNat < 128 := fun b h => by unfold dig at h; have := of_decide_eq_true h; omega
  intro b hb
  rcases List.mem_append.1 hb with h | h
  · exact hd b (hp.w b h)
  rcases List.mem_append.1 h with h | h
  · unfold Parts.fr at h
    split at h
    · rcases List.mem_cons.1 h with rfl | h
      · decide
      · exact hd b (hp.f b h)
    · exact absurd h List.not_mem_nil
  · unfold Parts.exE at h
    split at h
    · rcases List.mem_cons.1 h with rfl | h
      · rcases hp.e with h2 | h2 <;> rw [h2] <;> decide
      · rcases List.mem_append.1 h with h | h
        · rcases hp.sn with h2 | h2 | h2 <;> rw [h2] at h
          · exact absurd h List.not_mem_nil
          · rw [List.mem_singleton.1 h]; decide
          · rw [List.mem_singleton.1 h]; decide
        · exact hd b (hp.d b h)
    · exact absurd h List.not_mem_nil
theorem P_len : p.W.length + p.f.length + p.d.length ≤ p.text.length ∧ (p.W ++ (p.fr ++ p.exE)).length ≤ p.text.length ∧ p.ex.length ≤ p.text.length := by
  have h1 : p.f.length ≤ p.fr.length := by
    unfold Parts.fr
    cases h : p.fo
    · rw [hp.fo h]; simp
    · simp
  have h2 : p.d.length ≤ p.exE.length ∧ p.ex.length ≤ p.exE.length := by
    unfold Parts.exE Parts.ex
    cases h : p.eo
    · rw [(hp.eo h).1]; simp
    · simp; omega
  unfold Parts.text
  simp only [List.length_append]
  omega
end
/-- What the number of a text is, and 0, 3 or 4. -/
noncomputable def numV (l : List UInt8) : Nu × Nat := open Classical in if h : scan l = l.length ∧ l ≠ [] then numB (Classical.choose (scan_parts h.1 h.2)) (valR 0 (Classical.choose (scan_parts h.1 h.2)).d) else (Nu.zero, 3)
theorem numV_bad {l : List UInt8} (h : ¬(scan l = l.length ∧ l ≠ [])) : numV l = (Nu.zero, 3) := by unfold numV; rw [dif_neg h]
theorem numV_ok {l : List UInt8} (h : scan l = l.length ∧ l ≠ []) : ∃ p : Parts, p.Ok ∧ l = p.text ∧ numV l = numB p (valR 0 p.d) := by
  have hs := Classical.choose_spec (scan_parts h.1 h.2)
  exact ⟨_, hs.1, hs.2, by unfold numV; rw [dif_pos h]⟩
end Go.Proofs.YthabfgpncebigaaDoor.Nm

/- ref06.Parse in plain Lean: its three loops, and that they give the number of the parts. No program in sight. -/
namespace Go.Proofs.YthabfgpncebigaaDoor.Nm

/-- The first loop: digits gathered, the power so far; what is left. -/
def grow (dg : List UInt8) (b : UInt8) : List UInt8 := if dg ≠ [] ∨ b ≠ 48 then dg ++ [b] else dg
def m1 (pt : Bool) (dg : List UInt8) (ex : Int) : List UInt8 → List UInt8 × Int × List UInt8
  | [] => (dg, ex, [])
  | b :: r => if b = 101 ∨ b = 69 then (dg, ex, b :: r) else if b = 46 then m1 true dg ex r else m1 pt (grow dg b) (if pt then ex - 1 else ex) r
/-- The second: the power's digits, and whether it is below 0. -/
def m2 (a : Nat) (dn : Bool) : List UInt8 → Nat × Bool
  | [] => (a, dn)
  | b :: r => m2 (if dig b = true then str9 a b else a) (dn || b == 45) r
/-- Digits behind digits. -/
def app (dg d : List UInt8) : List UInt8 := if dg = [] then lz d else dg ++ d
theorem app_nil (dg : List UInt8) : app dg [] = dg := by unfold app; split <;> simp_all [lz]
theorem app_grow (dg : List UInt8) (b : UInt8) (d : List UInt8) : app (grow dg b) d = app dg (b :: d) := by
  unfold app grow lz
  by_cases h : dg = []
  · subst h
    by_cases hb : b = 48
    · subst hb; simp
    · simp [hb]
  · simp [h]
theorem app_app (dg a b : List UInt8) : app (app dg a) b = app dg (a ++ b) := by
  induction a generalizing dg with
  | nil => rw [app_nil, List.nil_append]
  | cons c a ih => rw [List.cons_append, ← app_grow, ih, app_grow]
theorem m1_digs : ∀ (d : List UInt8) (pt : Bool) (dg : List UInt8) (ex : Int) (r : List UInt8), Digs d → m1 pt dg ex (d ++ r) = m1 pt (app dg d) (if pt then ex - d.length else ex) r
  | [], pt, dg, ex, r, _ => by rw [app_nil]; cases pt <;> simp
  | b :: d, pt, dg, ex, r, h => by
    have hb := dig_ne (digs_cons.1 h).1
    have h1 : ¬(b = 101 ∨ b = 69) := by
      rintro (h2 | h2)
      · have := hb.2.2.1; rw [h2] at this; cases this
      · have := hb.2.2.1; rw [h2] at this; cases this
    rw [List.cons_append, m1, if_neg h1, if_neg hb.2.1, m1_digs d pt _ _ r (digs_cons.1 h).2, app_grow]
    congr 1
    cases pt
    · rfl
    · simp; omega
theorem m1_exE (p : Parts) (hp : p.Ok) (pt : Bool) (dg : List UInt8) (ex : Int) : m1 pt dg ex p.exE = (dg, ex, p.exE) := by
  unfold Parts.exE
  cases p.eo
  · rfl
  · rw [if_pos rfl, m1, if_pos hp.e]
theorem m1_parts (p : Parts) (hp : p.Ok) : m1 false [] 0 (p.W ++ (p.fr ++ p.exE)) = (lz (p.W ++ p.f), -(p.f.length : Int), p.exE) := by
  rw [m1_digs p.W false [] 0 _ hp.w]
  unfold Parts.fr
  cases h : p.fo
  · simp only [Bool.false_eq_true, if_false, List.nil_append]
    rw [m1_exE p hp, hp.fo h]
    simp [app]
  · simp only [Bool.false_eq_true, if_false, if_true, List.cons_append]
    rw [m1, if_neg (by decide), if_pos rfl, m1_digs p.f true _ _ _ hp.f, m1_exE p hp, app_app]
    simp [app]
theorem m2_digs : ∀ (d : List UInt8) (a : Nat) (dn : Bool), Digs d → m2 a dn d = (valR a d, dn)
  | [], _, _, _ => rfl
  | b :: d, a, dn, h => by
    have hb := dig_ne (digs_cons.1 h).1
    rw [m2, if_pos (digs_cons.1 h).1, show (b == 45) = false by simpa using hb.1, Bool.or_false, m2_digs d _ dn (digs_cons.1 h).2, valR_cons]
theorem m2_parts (p : Parts) (hp : p.Ok) : m2 0 false p.ex = (valR 0 p.d, decide (p.sn = [45])) := by
  unfold Parts.ex
  cases h : p.eo
  · rw [(hp.eo h).1, (hp.eo h).2]; rfl
  · rw [if_pos rfl]
    rcases hp.sn with h2 | h2 | h2 <;> rw [h2]
    · rw [List.nil_append, m2_digs _ _ _ hp.d]; rfl
    · rw [List.singleton_append, m2, if_neg (by decide), m2_digs _ _ _ hp.d]; rfl
    · rw [List.singleton_append, m2, if_neg (by decide), m2_digs _ _ _ hp.d]; rfl
/-- The third: one nought off the end. -/
theorem tz_snoc (d : List UInt8) : tz (d ++ [48]) = tz d := by unfold tz; simp
theorem tz_stay (d : List UInt8) (b : UInt8) (h : b ≠ 48) : tz (d ++ [b]) = d ++ [b] := by unfold tz; simp [h]
end Go.Proofs.YthabfgpncebigaaDoor.Nm

/- num: kind, Scan. -/
namespace Go.Proofs.YthabfgpncebigaaDoor
open Go.RowKit

/-- The table of num's states lies where it lies. -/
def NumT (w : World) : Prop := 1 < w.heap.size ∧ ∀ j, j < 54 → w.cell? ⟨1, j, none⟩ = some (.int .i64 (Nm.tab.getD j 0 : Nat))
theorem NumT.kept {w w' : World} (h : NumT w) (hs : w.heap.size ≤ w'.heap.size) (hk : w'.heap[1]? = w.heap[1]?) : NumT w' :=
  ⟨Nat.lt_of_lt_of_le h.1 hs, fun j hj => (World.cell?_of_block (a := ⟨1, j, none⟩) hk).trans (h.2 j hj)⟩
theorem NumT.below {w w' : World} (h : NumT w) (hb : Below w.heap.size w w') : NumT w' := h.kept hb.size (hb.block _ h.1)

/-- A kind as the program tells it. -/
def kindI (c : Nat) : Int := if Nm.kind c = 6 then -1 else (Nm.kind c : Int)
theorem knd_eq : ∀ c : Fin 256, (49 ≤ c.val ∧ c.val ≤ 57 ∧ kindI c.val = 1) ∨ (¬(49 ≤ c.val ∧ c.val ≤ 57) ∧ ((c.val = 63 ∧ kindI c.val = -1) ∨ (c.val = 69 ∧ kindI c.val = 3) ∨ (c.val ≠ 63 ∧ c.val ≠ 69 ∧ Lib.indexByte (ByteArray.mk #[48, 63, 46, 101, 43, 45]).data.toList ((c.val : Int).toNat.toUInt8) = kindI c.val))) := by decide +kernel

set_option maxHeartbeats 1000000 in
set_option maxRecDepth 100000 in
theorem numkind_any (c : Nat) (w : World) (hc : c < 256) : Calls Tryd.prog 60 #[.int .u8 c] w fun e w' => e = .returned (.int .i64 (kindI c)) ∧ w = w' := by
  have hk := knd_eq ⟨c, hc⟩
  simp only at hk
  have hix := Tryd.strings_IndexByte (ByteArray.mk #[48, 63, 46, 101, 43, 45]) (c : Int)
  generalize kindI c = x at *
  generalize Lib.indexByte (ByteArray.mk #[48, 63, 46, 101, 43, 45]).data.toList ((c : Int).toNat.toUInt8) = y at *
  go_enter Tryd.func60, Tryd.ntmps60
  rcases hk with ⟨h1, h2, rfl⟩ | ⟨h1, h2⟩
  · go_wp2
    go_returns
    exact ⟨rfl, rfl⟩
  · have h1' : (49 ≤ c → 57 < c) := by omega
    by_cases h49 : 49 ≤ c
    · have h57 := h1' h49
      clear h1 h1'
      rcases h2 with ⟨rfl, rfl⟩ | ⟨rfl, rfl⟩ | ⟨h2, h3, rfl⟩
      · go_wp2_with (first | (go_at_call 30; refine (hix _).mono ?_; rintro e w2 ⟨rfl, rfl⟩))
        go_returns
        exact ⟨rfl, rfl⟩
      · go_wp2_with (first | (go_at_call 30; refine (hix _).mono ?_; rintro e w2 ⟨rfl, rfl⟩))
        go_returns
        exact ⟨rfl, rfl⟩
      · have b1 : ((c : Int) == 63) = false := by simp; omega
        have b2 : ((c : Int) == 69) = false := by simp; omega
        go_wp2_with (first | (go_at_call 30; refine (hix _).mono ?_; rintro e w2 ⟨rfl, rfl⟩))
        go_returns
        exact ⟨rfl, rfl⟩
    · clear h1 h1'
      rcases h2 with ⟨rfl, rfl⟩ | ⟨rfl, rfl⟩ | ⟨h2, h3, rfl⟩
      · omega
      · omega
      · have b1 : ((c : Int) == 63) = false := by simp; omega
        have b2 : ((c : Int) == 69) = false := by simp; omega
        go_wp2_with (first | (go_at_call 30; refine (hix _).mono ?_; rintro e w2 ⟨rfl, rfl⟩))
        go_returns
        exact ⟨rfl, rfl⟩

set_option maxHeartbeats 2000000 in
set_option maxRecDepth 100000 in
theorem numscan_any (l : List UInt8) (w : World) (hT : NumT w) (hl : l.length ≤ 4611686018427387904) : Calls Tryd.prog 46 #[.string (str l)] w fun e w' => e = .returned (.int .i64 (Nm.scan l)) ∧ w = w' := by
  have HS : Hid (Nm.auto 0 0 0 (l.drop 0) = Nm.scan l) := Nm.auto_scan l
  generalize Nm.scan l = ans at *
  go_enter Tryd.func46, Tryd.ntmps46
  go_wp2
  go_loop [3, 4, 9] (fun sv ev iv => ∃ st en i : Nat, sv = .int .i64 st ∧ ev = .int .i64 en ∧ iv = .int .i64 i ∧ i ≤ l.length ∧ st < 9 ∧ en ≤ i ∧ Hid (Nm.auto st en i (l.drop i) = ans)) (fun _ _ iv => l.length - (intOf iv).toNat)
  case atStart => exact ⟨0, 0, 0, rfl, rfl, rfl, by omega, by omega, by omega, HS⟩
  case round =>
    obtain ⟨st, en, i, rfl, rfl, rfl, hi, hst, hen, HA⟩ := hrel
    by_cases hlt : i < l.length
    · have d1 : decide (i < l.length) = true := decide_eq_true hlt
      have e1 : 0 ≤ (i : Int) ∧ (i : Int) < l.length := by omega
      have hA := HA.out
      obtain ⟨b, hb⟩ : ∃ b, b = l[i] := ⟨_, rfl⟩
      rw [List.drop_eq_getElem_cons hlt, Nm.auto, ← hb] at hA
      have hix : nth l i = (b.toNat : Int) := by rw [nth_eq hlt, hb]
      have hkd := numkind_any b.toNat w b.toNat_lt
      obtain ⟨hk6, _⟩ := Nm.kfacts b
      unfold kindI at hkd
      generalize Nm.kind b.toNat = k at *
      have HK := Lib.hid hA
      clear hA HA hb HS
      by_cases hk : k = 6
      · rw [if_pos hk] at hkd
        subst hk
        go_wp2_with (first | (go_at_call 60; refine hkd.mono ?_; rintro e w2 ⟨rfl, rfl⟩))
        go_returns
        have := HK.out
        rw [show Nm.nxt st 6 = 0 by unfold Nm.nxt; rw [if_pos rfl], if_pos rfl] at this
        exact ⟨by rw [this]; rfl, rfl⟩
      · rw [if_neg hk] at hkd
        have hc := hT.2 (st * 6 + k) (by omega)
        have hn : Nm.nxt st k = Nm.tab.getD (st * 6 + k) 0 := by unfold Nm.nxt; rw [if_neg hk]
        rw [← hn] at hc
        have hn9 : Nm.nxt st k < 9 := by
          have : ∀ j : Fin 54, Nm.tab.getD j.val 0 < 9 := by decide
          rw [hn]; exact this ⟨st * 6 + k, by omega⟩
        have hw1 : IntKind.i64.wrap ((i : Int) + 1) = (i : Int) + 1 := IntWalk.i64_in _ (by omega)
        generalize Nm.nxt st k = s2 at *
        have i1 : 0 ≤ (st : Int) ∧ (st : Int) < 9 := by omega
        have i2 : 0 ≤ (k : Int) ∧ (k : Int) < 6 := by omega
        clear hn hT
        by_cases hz : s2 = 0
        · subst hz
          go_wp2_with (first | (go_at_call 60; refine hkd.mono ?_; rintro e w2 ⟨rfl, rfl⟩))
          go_returns
          have := HK.out
          rw [if_pos trivial] at this
          exact ⟨by rw [this]; rfl, rfl⟩
        · have h8 : s2 = 1 ∨ s2 = 2 ∨ s2 = 3 ∨ s2 = 4 ∨ s2 = 5 ∨ s2 = 6 ∨ s2 = 7 ∨ s2 = 8 := by omega
          have HK2 : Hid (Nm.auto s2 (if Nm.good s2 = true then i + 1 else en) (i + 1) (l.drop (i + 1)) = ans) := by
            have := HK.out
            rw [if_neg hz] at this
            exact this
          clear HK hz
          rcases h8 with rfl | rfl | rfl | rfl | rfl | rfl | rfl | rfl
          · have HK3 : Hid (Nm.auto 1 en (i + 1) (l.drop (i + 1)) = ans) := by
              have h := HK2.out
              rwa [if_neg (by decide)] at h
            clear HK2 hn9
            go_wp2_with (first | (go_at_call 60; refine hkd.mono ?_; rintro e w2 ⟨rfl, rfl⟩))
            go_round
            case rel => exact ⟨1, en, i + 1, rfl, rfl, by simp, by omega, by decide, by omega, HK3⟩
            case measure => simp [intOf]; omega
          · have HK3 : Hid (Nm.auto 2 (i + 1) (i + 1) (l.drop (i + 1)) = ans) := by
              have h := HK2.out
              rwa [if_pos (by decide)] at h
            clear HK2 hn9
            go_wp2_with (first | (go_at_call 60; refine hkd.mono ?_; rintro e w2 ⟨rfl, rfl⟩))
            go_round
            case rel => exact ⟨2, i + 1, i + 1, rfl, by simp, by simp, by omega, by decide, by omega, HK3⟩
            case measure => simp [intOf]; omega
          · have HK3 : Hid (Nm.auto 3 (i + 1) (i + 1) (l.drop (i + 1)) = ans) := by
              have h := HK2.out
              rwa [if_pos (by decide)] at h
            clear HK2 hn9
            go_wp2_with (first | (go_at_call 60; refine hkd.mono ?_; rintro e w2 ⟨rfl, rfl⟩))
            go_round
            case rel => exact ⟨3, i + 1, i + 1, rfl, by simp, by simp, by omega, by decide, by omega, HK3⟩
            case measure => simp [intOf]; omega
          · have HK3 : Hid (Nm.auto 4 en (i + 1) (l.drop (i + 1)) = ans) := by
              have h := HK2.out
              rwa [if_neg (by decide)] at h
            clear HK2 hn9
            go_wp2_with (first | (go_at_call 60; refine hkd.mono ?_; rintro e w2 ⟨rfl, rfl⟩))
            go_round
            case rel => exact ⟨4, en, i + 1, rfl, rfl, by simp, by omega, by decide, by omega, HK3⟩
            case measure => simp [intOf]; omega
          · have HK3 : Hid (Nm.auto 5 (i + 1) (i + 1) (l.drop (i + 1)) = ans) := by
              have h := HK2.out
              rwa [if_pos (by decide)] at h
            clear HK2 hn9
            go_wp2_with (first | (go_at_call 60; refine hkd.mono ?_; rintro e w2 ⟨rfl, rfl⟩))
            go_round
            case rel => exact ⟨5, i + 1, i + 1, rfl, by simp, by simp, by omega, by decide, by omega, HK3⟩
            case measure => simp [intOf]; omega
          · have HK3 : Hid (Nm.auto 6 en (i + 1) (l.drop (i + 1)) = ans) := by
              have h := HK2.out
              rwa [if_neg (by decide)] at h
            clear HK2 hn9
            go_wp2_with (first | (go_at_call 60; refine hkd.mono ?_; rintro e w2 ⟨rfl, rfl⟩))
            go_round
            case rel => exact ⟨6, en, i + 1, rfl, rfl, by simp, by omega, by decide, by omega, HK3⟩
            case measure => simp [intOf]; omega
          · have HK3 : Hid (Nm.auto 7 en (i + 1) (l.drop (i + 1)) = ans) := by
              have h := HK2.out
              rwa [if_neg (by decide)] at h
            clear HK2 hn9
            go_wp2_with (first | (go_at_call 60; refine hkd.mono ?_; rintro e w2 ⟨rfl, rfl⟩))
            go_round
            case rel => exact ⟨7, en, i + 1, rfl, rfl, by simp, by omega, by decide, by omega, HK3⟩
            case measure => simp [intOf]; omega
          · have HK3 : Hid (Nm.auto 8 (i + 1) (i + 1) (l.drop (i + 1)) = ans) := by
              have h := HK2.out
              rwa [if_pos (by decide)] at h
            clear HK2 hn9
            go_wp2_with (first | (go_at_call 60; refine hkd.mono ?_; rintro e w2 ⟨rfl, rfl⟩))
            go_round
            case rel => exact ⟨8, i + 1, i + 1, rfl, by simp, by simp, by omega, by decide, by omega, HK3⟩
            case measure => simp [intOf]; omega
    · obtain rfl : i = l.length := by omega
      go_wp2
      go_returns
      have := HA.out
      rw [List.drop_eq_nil_of_le (Nat.le_refl _), Nm.auto] at this
      exact ⟨by rw [this]; rfl, rfl⟩
end Go.Proofs.YthabfgpncebigaaDoor

/- num: Right. -/
namespace Go.Proofs.YthabfgpncebigaaDoor
open Go.RowKit

/-- A number as the program has it. -/
def numA (n : Nm.Nu) : Value := .agg #[.bool n.ng, .string (str n.ds), .int .i64 n.ex]
def digsB : ByteArray := ⟨#[48, 49, 50, 51, 52, 53, 54, 55, 56, 57]⟩
theorem dig_has (b : UInt8) : digsB.data.toList.contains b = Nm.dig b := by
  have h : ∀ c : Fin 256, digsB.data.toList.contains (UInt8.ofNat c.val) = Nm.dig (UInt8.ofNat c.val) := by decide +kernel
  have := h ⟨b.toNat, b.toNat_lt⟩
  simpa using this
theorem dw_nil (p : UInt8 → Bool) (l : List UInt8) : l.dropWhile p = [] ↔ l.all p = true := by
  induction l with
  | nil => simp
  | cons b r ih =>
    cases h : p b
    · simp [h]
    · rw [List.dropWhile_cons_of_pos h, ih, List.all_cons, h, Bool.true_and]
theorem trim_digs (l : List UInt8) : Lib.trimS l digsB.data.toList = [] ↔ l.all Nm.dig = true := by
  have hp : (fun b => digsB.data.toList.contains b) = Nm.dig := funext dig_has
  unfold Lib.trimS Lib.trimLeftS Lib.trimRightS
  rw [hp, dw_nil, List.all_reverse]
  constructor
  · intro h
    have hs := List.takeWhile_append_dropWhile (p := Nm.dig) (l := l.reverse)
    rw [← List.all_reverse, ← hs, List.all_append, h, List.all_takeWhile, Bool.and_self]
  · intro h
    have h2 : l.reverse.all Nm.dig = true := by rw [List.all_reverse, h]
    rw [(dw_nil _ _).2 h2]; rfl
theorem nth48 (b : UInt8) : ((b.toNat : Int) == 48) = (b == 48) := by
  rw [Bool.eq_iff_iff, beq_iff_eq, beq_iff_eq]
  exact ⟨fun h => UInt8.toNat_inj.1 (by have : b.toNat = 48 := by omega
                                        exact this), fun h => by rw [h]; rfl⟩
theorem str_inj (a b : List UInt8) : ((str a).toList == (str b).toList) = (a == b) := by rw [str_toList, str_toList]
theorem trim_any (l : List UInt8) (cs : ByteArray) (w : World) (hl : l.length ≤ 4611686018427387904) (hcs : cs.size < 4294967281) (ha : cs.data.toList.all (fun b => decide (b.toNat < 128)) = true) :
    Calls Tryd.prog 63 #[.string (str l), .string cs] w fun e w' => e = .returned (.string (str (Lib.trimS l cs.data.toList))) ∧ Below w.heap.size w w' :=
  Any.strings_Trim_laid Tryd.lays160 (by kernel_rfl) (str l) cs w (by rw [str_size]; omega) hcs (ascii_of_all ha)

set_option maxHeartbeats 2000000 in
set_option maxRecDepth 100000 in
theorem numright_any (n : Nm.Nu) (w : World) (hl : n.ds.length ≤ 4611686018427387904) : Calls Tryd.prog 65 #[numA n] w fun e w' => e = .returned (.bool (Nm.right n)) ∧ Below w.heap.size w w' := by
  obtain ⟨ng, ds, ex⟩ := n
  unfold numA
  simp only at hl ⊢
  go_enter Tryd.func65, Tryd.ntmps65
  by_cases h0 : ds = []
  · subst h0
    cases ng <;> by_cases hx : ex = 0
    · subst hx
      go_wp2
      go_returns
      exact ⟨rfl, by go_grown⟩
    all_goals
      have hr : ∀ m : Nm.Nu, m.ds = [] → m ≠ Nm.Nu.zero → Nm.right m = false := fun m h1 h2 => by unfold Nm.right; rw [if_pos h1]; exact decide_eq_false h2
      have hb : (ex == 0) = decide (ex = 0) := rfl
      rw [hr _ rfl (by simp [Nm.Nu.zero]; try exact hx)]
      go_wp2
      all_goals (go_returns; exact ⟨rfl, by go_grown⟩)
  · have hr : Nm.right ⟨ng, ds, ex⟩ = (decide (ds.length ≤ 1000) && (ds.all Nm.dig && (!(ds.getD 0 0 == 48) && (!(ds.getD (ds.length - 1) 0 == 48) && (decide (ex ≤ 10000) && decide (-10000 ≤ ex)))))) := by unfold Nm.right; rw [if_neg h0]
    rw [hr]
    have hne : (ds == []) = false := by simpa using h0
    have hpos : 0 < ds.length := Nat.pos_of_ne_zero fun h => h0 (List.eq_nil_of_length_eq_zero h)
    by_cases h1 : ds.length ≤ 1000
    · rw [decide_eq_true h1, Bool.true_and]
      have i1 : (ds.length : Int) ≤ 1000 := by omega
      have hT := trim_any ds digsB
      by_cases h2 : ds.all Nm.dig = true
      · have hx : Lib.trimS ds digsB.data.toList = [] := (trim_digs ds).2 h2
        rw [hx] at hT
        rw [h2, Bool.true_and]
        obtain ⟨x0, hx0⟩ : ∃ x0, x0 = nth ds 0 := ⟨_, rfl⟩
        obtain ⟨x1, hx1⟩ : ∃ x1, x1 = nth ds (ds.length - 1) := ⟨_, rfl⟩
        have b0 : (x0 == 48) = (ds.getD 0 0 == 48) := by rw [hx0, nth]; exact nth48 _
        have b1 : (x1 == 48) = (ds.getD (ds.length - 1) 0 == 48) := by rw [hx1, nth]; exact nth48 _
        rw [← b0, ← b1]
        have j1 : IntKind.i64.wrap ((ds.length : Int) - 1) = (ds.length : Int) - 1 := IntWalk.i64_in _ (by omega)
        have j2 : 0 ≤ (ds.length : Int) - 1 ∧ (ds.length : Int) - 1 < ds.length := by omega
        have j3 : nth ds ((ds.length : Int) - 1).toNat = x1 := by rw [hx1]; congr 1; omega
        have j4 : 0 < (ds.length : Int) := by omega
        have hx0' := hx0.symm
        have j5 : nth ds (ds.length - 1) = x1 := hx1.symm
        clear hr hx b0 b1 hx0 hx1 h2
        go_wp2_with fail
        refine (hT _ hl (by decide) (by decide)).mono ?_
        rintro e w2 ⟨rfl, hB⟩
        have hS := hB.size
        have e0 : w2.cell? ⟨w.heap.size, 0, none⟩ = some (.bool ng) := (hB.cell (by simp)).trans (by simp)
        have e1 : w2.cell? ⟨w.heap.size, 1, none⟩ = some (.string (str ds)) := (hB.cell (by simp)).trans (by simp)
        have e2 : w2.cell? ⟨w.heap.size, 2, none⟩ = some (.int .i64 ex) := (hB.cell (by simp)).trans (by simp)
        have hBB : Below w.heap.size w w2 := ((Below.refl _ w).alloc (Nat.le_refl _) _).trans (hB.mono (by simp))
        clear hB hT
        by_cases k0 : x0 = 48
        · subst k0
          go_wp2
          go_returns
          exact ⟨rfl, hBB⟩
        have k0' : (x0 == 48) = false := by simpa using k0
        have k0n : (x0 != 48) = true := by simpa using k0
        by_cases k1 : x1 = 48
        · subst k1
          go_wp2
          go_returns
          exact ⟨by rw [k0']; rfl, hBB⟩
        have k1' : (x1 == 48) = false := by simpa using k1
        have k1n : (x1 != 48) = true := by simpa using k1
        by_cases k2 : ex ≤ 10000
        · by_cases k3 : -10000 ≤ ex
          · go_wp2
            go_returns
            exact ⟨by rw [k0', k1', decide_eq_true k2, decide_eq_true k3]; rfl, hBB⟩
          · go_wp2
            go_returns
            exact ⟨by rw [k0', k1', decide_eq_true k2, show decide (-10000 ≤ ex) = false from decide_eq_false (by omega)]; rfl, hBB⟩
        · go_wp2
          go_returns
          exact ⟨by rw [show decide (ex ≤ 10000) = false from decide_eq_false (by omega)]; rfl, hBB⟩
      · have hx : ¬Lib.trimS ds digsB.data.toList = [] := fun h => h2 ((trim_digs ds).1 h)
        rw [show ds.all Nm.dig = false by simpa using h2, Bool.false_and]
        generalize Lib.trimS ds digsB.data.toList = x at *
        have hx2 : (x == []) = false := by simpa using hx
        go_wp2_with (first | (go_at_call 63; refine (hT _ hl (by decide) (by decide)).mono ?_; rintro e w2 ⟨rfl, hB⟩))
        go_returns
        exact ⟨rfl, ((Below.refl _ w).alloc (Nat.le_refl _) _).trans (hB.mono (by simp))⟩
    · have i1 : ¬(ds.length : Int) ≤ 1000 := by omega
      have i2 : 1000 < ds.length := by omega
      rw [decide_eq_false h1, Bool.false_and]
      go_wp2
      go_returns
      exact ⟨rfl, by go_grown⟩
end Go.Proofs.YthabfgpncebigaaDoor

/- num: Parse. -/
namespace Go.Proofs.YthabfgpncebigaaDoor
open Go.RowKit

theorem later_drewN (w : World) (d : Nat) (os : Array Obj) (n : Nat) : (later w d os).drewN n = later w (d + n) os := rfl

set_option maxHeartbeats 4000000 in
set_option maxRecDepth 100000 in
theorem numparse_any (l : List UInt8) (m : Int) (w : World) (hT : NumT w) (hm : w.cell? ⟨2, 0, none⟩ = some (.int .i64 m)) (hl : l.length ≤ 100000000) :
    Calls Tryd.prog 47 #[.string (str l)] w fun e w' => e = .returned (.tuple #[numA (Nm.numV l).1, .int .i64 (Nm.numV l).2]) ∧ Below w.heap.size w w' := by
  by_cases hg : Nm.scan l = l.length ∧ l ≠ []
  · obtain ⟨p, hp, htx, hv⟩ := Nm.numV_ok hg
    obtain ⟨L1, L2, L3⟩ := Nm.P_len p hp
    rw [← htx] at L1 L2 L3
    rw [hv, ← Nm.numB_caps p hp (by omega)]
    have hsc := numscan_any l
    rw [hg.1] at hsc
    have h0 : ¬l = [] := hg.2
    have hne : (l == []) = false := by simpa using hg.2
    have C1 : ∀ w, Calls Tryd.prog 61 #[.string (str l), .string ⟨#[45]⟩] w fun e w' => e = .returned (.tuple #[.string (str (p.W ++ (p.fr ++ p.exE))), .bool p.ng]) ∧ w' = w := by
      intro w
      have h := Tryd.strings_CutPrefix (str l) ⟨#[45]⟩ w
      have e1 : (str l).data.toList = l := rfl
      rw [e1, htx, Nm.P_trim p hp, Nm.P_prefix p hp, ← htx] at h
      exact h
    have C2 : ∀ w, Calls Tryd.prog 62 #[.string (str (p.W ++ (p.fr ++ p.exE))), .string ⟨#[101, 69]⟩] w fun e w' => e = .returned (.int .i64 (if p.eo then ((p.W ++ p.fr).length : Int) else -1)) ∧ Below w.heap.size w w' := by
      intro w
      have h := Tryd.strings_IndexAny_laid (str (p.W ++ (p.fr ++ p.exE))) ⟨#[101, 69]⟩ w (by rw [str_size]; omega) (by decide) (fun j b hb => Nm.P_ascii p hp b (List.mem_of_getElem? hb)) (ascii_of_all (by decide))
      have e1 : (str (p.W ++ (p.fr ++ p.exE))).data.toList = p.W ++ (p.fr ++ p.exE) := rfl
      rw [e1, Nm.P_any p hp] at h
      exact h
    have C3 : ∀ w, w.cell? ⟨2, 0, none⟩ = some (.int .i64 m) → Calls Tryd.prog 43 #[.string (str (p.W ++ p.fr)), .string ⟨#[46]⟩] w fun e w' => e = .returned (.tuple #[.string (str p.W), .string (str p.f), .bool p.fo]) ∧ ∃ n, w' = w.drewN n := by
      intro w hm
      have h := Tryd.strings_Cut (str (p.W ++ p.fr)) ⟨#[46]⟩ m w (by rw [str_size]; simp only [List.length_append] at L2 ⊢; omega) hm
      have e1 : (str (p.W ++ p.fr)).data.toList = p.W ++ p.fr := rfl
      rw [e1, Nm.P_cut p hp] at h
      exact h
    have C4 : ∀ w, Calls Tryd.prog 49 #[.string (str p.ex), .string ⟨#[45]⟩] w fun e w' => e = .returned (.bool (decide (p.sn = [45]))) ∧ w' = w := by
      intro w
      have h := Tryd.strings_HasPrefix (str p.ex) ⟨#[45]⟩ w
      have e1 : (str p.ex).data.toList = p.ex := rfl
      rw [e1, Nm.P_down p hp] at h
      exact h
    have C5 : ∀ w, Calls Tryd.prog 63 #[.string (str p.ex), .string ⟨#[43, 45]⟩] w fun e w' => e = .returned (.string (str p.d)) ∧ Below w.heap.size w w' := by
      intro w
      have h := trim_any p.ex ⟨#[43, 45]⟩ w (by omega) (by decide) (by decide)
      rw [Nm.P_ds p hp] at h
      exact h
    have C6 : ∀ w, Calls Tryd.prog 64 #[.string (str (p.W ++ p.f)), .string ⟨#[48]⟩] w fun e w' => e = .returned (.string (str (Nm.lz (p.W ++ p.f)))) ∧ w' = w := fun w => Tryd.strings_TrimLeft_one (str (p.W ++ p.f)) 48 (by decide) w
    have C7 : ∀ w, Calls Tryd.prog 51 #[.string (str (Nm.lz (p.W ++ p.f))), .string ⟨#[48]⟩] w fun e w' => e = .returned (.string (str (Nm.tz (Nm.lz (p.W ++ p.f))))) ∧ w' = w := fun w => Tryd.strings_TrimRight_one (str (Nm.lz (p.W ++ p.f))) 48 (by decide) w (by have := Nm.lz_le (p.W ++ p.f); rw [str_size]; simp only [List.length_append] at this; omega)
    have hs1 : p.eo = false → p.exE = [] ∧ p.ex = [] := fun h => by unfold Nm.Parts.exE Nm.Parts.ex; rw [h]; exact ⟨rfl, rfl⟩
    have hs2 : p.eo = true → p.exE = p.e :: p.ex := fun h => by unfold Nm.Parts.exE Nm.Parts.ex; rw [h]; rfl
    have T1 : (p.W ++ (p.fr ++ p.exE)).take (p.W ++ p.fr).length = p.W ++ p.fr := by rw [← List.append_assoc, List.take_left']; rfl
    have T2 : p.eo = true → (p.W ++ (p.fr ++ p.exE)).drop ((p.W ++ p.fr).length + 1) = p.ex := fun h => by rw [hs2 h, ← List.append_assoc, List.drop_append]; simp
    have T3 : p.eo = true → (p.W ++ p.fr).length + 1 ≤ (p.W ++ (p.fr ++ p.exE)).length := fun h => by rw [hs2 h]; simp only [List.length_append, List.length_cons]; omega
    have T4 : p.eo = false → p.W ++ (p.fr ++ p.exE) = p.W ++ p.fr := fun h => by rw [(hs1 h).1, List.append_nil]
    obtain ⟨s1, hS1⟩ : ∃ s1, s1 = p.W ++ (p.fr ++ p.exE) := ⟨_, rfl⟩
    obtain ⟨dgs, hdg⟩ : ∃ dgs, dgs = p.W ++ p.fr := ⟨_, rfl⟩
    obtain ⟨all, hall⟩ : ∃ all, all = p.W ++ p.f := ⟨_, rfl⟩
    rw [← hS1] at L2 C1 C2 T1 T2 T3 T4
    rw [← hdg] at C2 C3 T1 T2 T3 T4
    have hexn : p.eo = false → p.ex = [] := fun h => (hs1 h).2
    clear hS1 hdg hs1 hs2 hv htx hg
    go_enter Tryd.func47, Tryd.ntmps47
    go_wp2_with fail
    refine (hsc _ (hT.below ((Below.refl _ _).alloc (Nat.le_refl _) _)) (by omega)).mono ?_
    rintro e w2 ⟨rfl, rfl⟩
    clear hsc
    go_wp2_with fail
    refine (C1 _).mono ?_
    rintro e w2 ⟨rfl, rfl⟩
    clear C1
    go_wp2_with fail
    refine (C2 _).mono ?_
    rintro e w2 ⟨rfl, hB⟩
    obtain ⟨d2, o2, rfl⟩ := later_of_below hB
    clear C2 hB
    have hlt2 : 2 < w.heap.size := Nat.lt_of_not_le fun hh => by
      rw [World.cell?, Array.getElem?_eq_none hh] at hm
      cases hm
    have hBa := below_later' (((Below.refl w.heap.size w).alloc (Nat.le_refl _) (.cells #[.bool false, .string ⟨#[]⟩, .int .i64 0] 58)).alloc (by simp) (.cells #[.bool p.ng, .string ⟨#[]⟩, .int .i64 0] 58)) (by simp; omega) d2 o2
    have hm2 := (hBa.cell (p := ⟨2, 0, none⟩) hlt2).trans hm
    clear hT hm hlt2
    have u1 : IntKind.i64.wrap (-(p.f.length : Int)) = -(p.f.length : Int) := IntWalk.i64_in _ (by omega)
    cases hEo : p.eo
    case' false =>
      obtain rfl := T4 hEo
      rw [hexn hEo] at C4 C5
      clear T1 T2 T3 T4 hexn
      go_wp2_with fail
      refine (C3 _ hm2).mono ?_
      rintro e w2 ⟨rfl, n3, rfl⟩
      rw [later_drewN]
    case' true =>
      have t2 := T2 hEo
      have t3 := T3 hEo
      clear T2 T3 T4 hexn
      have j1 : 0 ≤ (dgs.length : Int) ∧ (dgs.length : Int) ≤ s1.length := by omega
      have j2 : IntKind.i64.wrap ((dgs.length : Int) + 1) = (dgs.length : Int) + 1 := IntWalk.i64_in _ (by omega)
      have j3 : 0 ≤ (dgs.length : Int) + 1 ∧ (dgs.length : Int) + 1 ≤ s1.length := by omega
      have j4 : ((dgs.length : Int) + 1).toNat = dgs.length + 1 := by omega
      go_wp2_with fail
      go_quiet (fail)
      go_wp2_with fail
      refine Calls.mono (C3 _ ?_) ?_
      · exact hm2
      rintro e w2 ⟨rfl, n3, rfl⟩
      rw [later_drewN, later_drewN]
      clear j1 j2 j3 j4 t2 t3
    all_goals
      clear C3 hm2 hBa
      go_wp2_with fail
      refine (C4 _).mono ?_
      rintro e w2 ⟨rfl, rfl⟩
      clear C4
      go_wp2_with fail
      refine (C5 _).mono ?_
      rintro e w2 ⟨rfl, hB⟩
      obtain ⟨d5, o5, rfl⟩ := later_of_below hB
      clear C5 hB
      generalize hws : later (later _ _ _) _ _ = ws
      have HW := Lib.hid hws
      clear hws
      go_wp2
      go_loopw [12] (fun bv wr => ∃ k : Nat, k ≤ p.d.length ∧ bv = .int .i64 (Nm.valP 0 (p.d.take k) : Nat) ∧ wr = ws.iter (str p.d) k) (fun _ wr => p.d.length - wr.iterPos ws.heap.size)
      case atStart => exact ⟨0, Nat.zero_le _, rfl, rfl⟩
      case round =>
        obtain ⟨k, hk, rfl, rfl⟩ := hrel
        by_cases hlt : k < p.d.length
        · have hsz : k < (str p.d).size := by rw [str_size]; exact hlt
          have hdg := hp.d _ (List.getElem_mem hlt)
          have hd9 := Nm.dig_le hdg
          have hnx : ∀ ty, (Instr.next (.pointer (some ⟨ws.heap.size, 0, none⟩)) true ty).run Tryd.prog (ws.iter (str p.d) k) = _ := fun ty => run_next_ascii ws (str p.d) k ty hsz (by rw [str_getElem]; omega)
          rw [str_getElem] at hnx
          have hvs : Nm.valP 0 (p.d.take (k + 1)) = Nm.stp (Nm.valP 0 (p.d.take k)) p.d[k] := by rw [List.take_succ_eq_append_getElem hlt]; exact Nm.valP_snoc _ _ _
          have hle := Nm.valP_le (p.d.take k) 0 (by omega)
          generalize p.d[k] = c at *
          generalize Nm.valP 0 (p.d.take k) = a at *
          go_wp2
          refine ⟨⟨k + 1, hlt, congrArg (Value.int .i64) ?_, rfl⟩, by simp; omega⟩
          rw [hvs]
          unfold Nm.stp
          omega
        · obtain rfl : k = p.d.length := by omega
          have hnx : ∀ ty, (Instr.next (.pointer (some ⟨ws.heap.size, 0, none⟩)) true ty).run Tryd.prog (ws.iter (str p.d) p.d.length) = _ := fun ty => run_next_end ws (str p.d) p.d.length ty (by rw [str_size]; omega)
          rw [List.take_length]
          have hvle := Nm.valP_le p.d 0 (by omega)
          obtain ⟨v, hvv⟩ : ∃ v, v = Nm.valP 0 p.d := ⟨_, rfl⟩
          rw [← hvv] at hvle ⊢
          have HV := Lib.hid hvv
          clear hvv
          go_upto_region 17 with (fail)
          clear hnx
          obtain rfl := HW.out
          clear HW
          unfold World.iter
          have hla := Nm.lz_le (p.W ++ p.f)
          have hlt2 := Nm.tz_le (Nm.lz (p.W ++ p.f))
          have hNB : Nm.numB p (Nm.valP 0 p.d) = if Nm.tz (Nm.lz (p.W ++ p.f)) = [] then (Nm.Nu.zero, 0) else if Nm.right ⟨p.ng, Nm.tz (Nm.lz (p.W ++ p.f)), -(p.f.length : Int) + (if p.sn = [45] then -(v : Int) else v) + ((Nm.lz (p.W ++ p.f)).length - (Nm.tz (Nm.lz (p.W ++ p.f))).length)⟩ = true then (⟨p.ng, Nm.tz (Nm.lz (p.W ++ p.f)), -(p.f.length : Int) + (if p.sn = [45] then -(v : Int) else v) + ((Nm.lz (p.W ++ p.f)).length - (Nm.tz (Nm.lz (p.W ++ p.f))).length)⟩, 0) else (Nm.Nu.zero, 4) := by rw [← HV.out]; rfl
          rw [List.length_append] at hla
          generalize Nm.lz (p.W ++ p.f) = lz at *
          generalize Nm.tz lz = tz at *
          obtain ⟨y, hy⟩ : ∃ y : Int, y = if p.sn = [45] then -(v : Int) else v := ⟨_, rfl⟩
          have hy1 : -1099511627776 ≤ y ∧ y ≤ 1099511627776 := by rw [hy]; split <;> omega
          rw [← hy] at hNB
          obtain ⟨x, hx⟩ : ∃ x : Int, x = -(p.f.length : Int) + y + ((lz.length : Int) - tz.length) := ⟨_, rfl⟩
          rw [← hx] at hNB
          have HNB := Lib.hid hNB
          have v2 : IntKind.i64.wrap (-(p.f.length : Int) + y) = -(p.f.length : Int) + y := IntWalk.i64_in _ (by omega)
          have v3 : IntKind.i64.wrap ((lz.length : Int) - tz.length) = (lz.length : Int) - tz.length := IntWalk.i64_in _ (by omega)
          have v4 : IntKind.i64.wrap (-(p.f.length : Int) + y + ((lz.length : Int) - tz.length)) = x := by rw [← hx]; exact IntWalk.i64_in _ (by omega)
          have hR := numright_any ⟨p.ng, tz, x⟩
          clear hNB hx
          by_cases hdn : p.sn = [45]
          case' pos =>
            have v1 : IntKind.i64.wrap (-(v : Int)) = y := by rw [hy, if_pos hdn]; exact IntWalk.i64_in _ (by omega)
            have hd1 : decide (p.sn = [45]) = true := decide_eq_true hdn
            rw [hd1]
            clear hdn hy
            go_upto_region 19 with (fail)
          case' neg =>
            have v1 : (v : Int) = y := by rw [hy, if_neg hdn]
            have hd1 : decide (p.sn = [45]) = false := decide_eq_false hdn
            rw [hd1, v1]
            clear hdn hy
            go_upto_region 19 with (fail)
          all_goals
            clear v1 hd1
            go_wp2_with fail
            refine (C6 _).mono ?_
            rintro e w2 ⟨rfl, rfl⟩
            go_wp2_with fail
            refine (C7 _).mono ?_
            rintro e w2 ⟨rfl, rfl⟩
            clear C6 C7
            by_cases ht : tz = []
            · subst ht
              go_wp2
              go_returns
              refine ⟨?_, ?_⟩
              · rw [show Nm.numB p (Nm.valP 0 p.d) = (Nm.Nu.zero, 0) from HNB.out.trans (by simp)]; rfl
              · repeat' (first | exact Below.refl _ _ | refine below_later' ?_ ?_ _ _ | refine Below.alloc ?_ ?_ _ | exact Nat.le_refl _ | (simp; done) | (simp; omega))
            · have htb : (tz == []) = false := by simpa using ht
              have hNB := HNB.out
              rw [if_neg ht] at hNB
              clear HNB
              have HNB := Lib.hid hNB
              clear hNB
              go_wp2_with fail
              refine (hR _ (by show tz.length ≤ _; omega)).mono ?_
              rintro e w2 ⟨rfl, hB⟩
              obtain ⟨d6, o6, rfl⟩ := later_of_below hB
              clear hB hR
              have hNB := HNB.out
              clear HNB
              generalize Nm.right ⟨p.ng, tz, x⟩ = rb at *
              have HNB := Lib.hid hNB
              clear hNB
              cases rb
              · go_wp2
                go_returns
                refine ⟨?_, ?_⟩
                · rw [show Nm.numB p (Nm.valP 0 p.d) = (Nm.Nu.zero, 4) from HNB.out.trans (if_neg (by simp))]; rfl
                · repeat' (first | exact Below.refl _ _ | refine below_later' ?_ ?_ _ _ | refine Below.alloc ?_ ?_ _ | exact Nat.le_refl _ | (simp; done) | (simp; omega))
              · go_wp2
                go_returns
                refine ⟨?_, ?_⟩
                · rw [show Nm.numB p (Nm.valP 0 p.d) = (⟨p.ng, tz, x⟩, 0) from HNB.out.trans (by simp)]; rfl
                · repeat' (first | exact Below.refl _ _ | refine below_later' ?_ ?_ _ _ | refine Below.alloc ?_ ?_ _ | exact Nat.le_refl _ | (simp; done) | (simp; omega))
  · rw [Nm.numV_bad hg]
    have hsc := numscan_any l
    have hle := Nm.scan_le l
    go_enter Tryd.func47, Tryd.ntmps47
    by_cases h0 : l = []
    · subst h0
      go_wp2
      go_returns
      exact ⟨rfl, by go_grown⟩
    · have hlt : (Nm.scan l : Int) < l.length := by
        have : Nm.scan l ≠ l.length := fun h => hg ⟨h, h0⟩
        omega
      have hlt' : Nm.scan l < l.length := by omega
      have hne : (l == []) = false := by simpa using h0
      generalize Nm.scan l = sc at *
      go_wp2_with fail
      refine (hsc _ (hT.below ((Below.refl _ _).alloc (Nat.le_refl _) _)) (by omega)).mono ?_
      rintro e w2 ⟨rfl, rfl⟩
      go_wp2
      go_returns
      exact ⟨rfl, by go_grown⟩
end Go.Proofs.YthabfgpncebigaaDoor

/- tabulariumref06: digit, run. -/
namespace Go.Proofs.YthabfgpncebigaaDoor
open Go.RowKit

theorem hd_drop {l : List UInt8} {i : Nat} (h : i < l.length) : Nm.hd (l.drop i) = decide (48 ≤ nth l i ∧ nth l i ≤ 57) := by
  rw [List.drop_eq_getElem_cons h, Nm.hd, Nm.dig, nth_eq h]
  rw [decide_eq_decide]
  omega
theorem hd_past {l : List UInt8} {i : Nat} (h : ¬i < l.length) : Nm.hd (l.drop i) = false := by
  rw [List.drop_eq_nil_of_le (by omega)]; rfl
theorem hb_drop {l : List UInt8} {i c : Nat} (h : i < l.length) : Nm.hb c (l.drop i) = decide (nth l i = c) := by
  rw [List.drop_eq_getElem_cons h, Nm.hb, nth_eq h, decide_eq_decide]
  omega
theorem hb_past {l : List UInt8} {i c : Nat} (h : ¬i < l.length) : Nm.hb c (l.drop i) = false := by
  rw [List.drop_eq_nil_of_le (by omega)]; rfl

set_option maxHeartbeats 1000000 in
set_option maxRecDepth 100000 in
theorem rdigit_any (l : List UInt8) (i : Nat) (w : World) : Calls Tryd.prog 53 #[.string (str l), .int .i64 i] w fun e w' => e = .returned (.bool (Nm.hd (l.drop i))) ∧ w = w' := by
  by_cases h : i < l.length
  · have e1 : 0 ≤ (i : Int) ∧ (i : Int) < l.length := by omega
    obtain ⟨x, hx⟩ : ∃ x : Int, nth l i = x := ⟨_, rfl⟩
    rw [hd_drop h, hx]
    by_cases h1 : 48 ≤ x
    · by_cases h2 : x ≤ 57
      · rw [decide_eq_true ⟨h1, h2⟩]
        go_enter Tryd.func53, Tryd.ntmps53
        go_wp2
        go_returns
        exact ⟨rfl, rfl⟩
      · rw [decide_eq_false fun h => h2 h.2]
        go_enter Tryd.func53, Tryd.ntmps53
        go_wp2
        go_returns
        exact ⟨rfl, rfl⟩
    · rw [decide_eq_false fun h => h1 h.1]
      go_enter Tryd.func53, Tryd.ntmps53
      go_wp2
      go_returns
      exact ⟨rfl, rfl⟩
  · rw [hd_past h]
    have e1 : ¬(i : Int) < l.length := by omega
    have e2 : l.length ≤ i := by omega
    go_enter Tryd.func53, Tryd.ntmps53
    go_wp2
    go_returns
    exact ⟨rfl, rfl⟩

set_option maxHeartbeats 1000000 in
set_option maxRecDepth 100000 in
theorem rrun_any (l : List UInt8) (i : Nat) (w : World) (hl : l.length ≤ 4611686018427387904) : Calls Tryd.prog 54 #[.string (str l), .int .i64 i] w fun e w' => e = .returned (.int .i64 ((i + Nm.run (l.drop i) : Nat) : Int)) ∧ w = w' := by
  have hdg := rdigit_any l
  have H0 : Hid (i + Nm.run (l.drop i) = i + Nm.run (l.drop i)) := rfl
  generalize hans : i + Nm.run (l.drop i) = ans at H0 ⊢
  rw [← hans] at H0
  have HS := Lib.hid hans
  clear hans H0
  go_enter Tryd.func54, Tryd.ntmps54
  go_wp2
  go_loop [1] (fun iv => ∃ j : Nat, iv = .int .i64 j ∧ Hid (j + Nm.run (l.drop j) = ans)) (fun iv => l.length - (intOf iv).toNat)
  case atStart => exact ⟨i, rfl, HS⟩
  case round =>
    obtain ⟨j, rfl, HJ⟩ := hrel
    have hd := hdg j w
    cases hb : Nm.hd (l.drop j)
    · rw [hb] at hd
      have hr : Nm.run (l.drop j) = 0 := Decidable.byContradiction fun hn => by have := Nm.run_pos.1 hn; rw [hb] at this; cases this
      go_wp2_with (first | (go_at_call 53; refine hd.mono ?_; rintro e w2 ⟨rfl, rfl⟩))
      go_returns
      have := HJ.out
      rw [hr, Nat.add_zero] at this
      exact ⟨by rw [this]; rfl, rfl⟩
    · rw [hb] at hd
      have hj : j < l.length := Nat.lt_of_not_le fun hh => by rw [List.drop_eq_nil_of_le hh] at hb; cases hb
      have hw : IntKind.i64.wrap ((j : Int) + 1) = (j : Int) + 1 := IntWalk.i64_in _ (by omega)
      have HJ2 : Hid (j + 1 + Nm.run (l.drop (j + 1)) = ans) := by
        have := HJ.out
        rw [List.drop_eq_getElem_cons hj, Nm.run, if_pos (by rw [List.drop_eq_getElem_cons hj] at hb; exact hb)] at this
        show j + 1 + Nm.run (l.drop (j + 1)) = ans
        omega
      clear hb
      go_wp2_with (first | (go_at_call 53; refine hd.mono ?_; rintro e w2 ⟨rfl, rfl⟩))
      go_round
      case rel => exact ⟨j + 1, by simp, HJ2⟩
      case measure => simp [intOf]; omega
end Go.Proofs.YthabfgpncebigaaDoor

/- tabulariumref06: Scan. -/
namespace Go.Proofs.YthabfgpncebigaaDoor
open Go.RowKit

/-- The scan from a place on, as the document's function goes. -/
theorem scan_from (l : List UInt8) (i : Nat) (hi : i = if Nm.hb 45 l = true then 1 else 0) : Nm.scan l = if Nm.hd (l.drop i) = true then i + Nm.wholeF (l.drop i) + Nm.restF (l.drop (i + Nm.wholeF (l.drop i))) else 0 := by
  have hw : ∀ r : List UInt8, Nm.wholeF r = 0 ↔ ¬Nm.hd r = true := by
    intro r
    unfold Nm.wholeF
    constructor
    · intro h hh
      rw [if_pos hh] at h
      split at h
      · cases h
      · exact absurd h (Nm.run_pos.2 hh)
    · intro h; rw [if_neg h]
  unfold Nm.scan
  cases hm : Nm.hb 45 l
  · rw [if_neg (by simp)]
    rw [hm] at hi
    have hi0 : i = 0 := hi
    subst hi0
    rw [List.drop_zero]
    by_cases h : Nm.hd l = true
    · rw [if_pos h, if_neg (fun hh => (hw l).1 hh h)]; simp
    · rw [if_neg h, if_pos ((hw l).2 h)]
  · rw [if_pos rfl]
    rw [hm] at hi
    have hi1 : i = 1 := hi
    subst hi1
    by_cases h : Nm.hd (l.drop 1) = true
    · rw [if_pos h, if_neg (fun hh => (hw _).1 hh h)]
    · rw [if_neg h, if_pos ((hw _).2 h)]
theorem whole_at {l : List UInt8} {i : Nat} (h : Nm.hd (l.drop i) = true) : Nm.wholeF (l.drop i) = if nth l i = 48 then 1 else Nm.run (l.drop i) := by
  have hlt : i < l.length := Nat.lt_of_not_le fun hh => by rw [List.drop_eq_nil_of_le hh] at h; cases h
  unfold Nm.wholeF
  rw [if_pos h, hb_drop hlt]
  by_cases hh : nth l i = 48
  · rw [if_pos hh, if_pos (decide_eq_true (by exact_mod_cast hh))]
  · rw [if_neg hh, if_neg (by simpa using hh)]

set_option maxHeartbeats 4000000 in
set_option maxRecDepth 100000 in
theorem rscan_any (l : List UInt8) (w : World) (hl : l.length ≤ 4611686018427387904) : Calls Tryd.prog 34 #[.string (str l)] w fun e w' => e = .returned (.int .i64 (Nm.scan l)) ∧ w = w' := by
  have hdg := rdigit_any l
  have hrn := rrun_any l
  obtain ⟨ans, hans⟩ : ∃ ans, ans = Nm.scan l := ⟨_, rfl⟩
  rw [← hans]
  have hi : ∃ i : Nat, (i = if Nm.hb 45 l = true then 1 else 0) := ⟨_, rfl⟩
  obtain ⟨i, hi⟩ := hi
  have HS := scan_from l i hi
  rw [← hans] at HS
  clear hans
  have HS := Lib.hid HS
  go_enter Tryd.func34, Tryd.ntmps34
  go_upto_region 2 with (fail)
  go_cut [12] from 5 (fun c wx => c = .bool (Nm.hb 45 l) ∧ wx = w)
  case first =>
    by_cases h0 : 0 < l.length
    · have h0i : 0 < (l.length : Int) := by omega
      have hb := hb_drop (c := 45) h0
      obtain ⟨x, hx⟩ : ∃ x : Int, nth l 0 = x := ⟨_, rfl⟩
      rw [List.drop_zero, hx] at hb
      have HB := Lib.hid hb
      clear hb HS hi
      by_cases h1 : x = 45
      · subst h1
        go_wp2_with fail
        go_meet
        exact ⟨by rw [HB.out]; rfl, rfl⟩
      · have h2 : (x == 45) = false := by simpa using h1
        go_wp2_with fail
        go_meet
        exact ⟨by rw [HB.out, decide_eq_false (by simpa using h1)], rfl⟩
    · have h0i : ¬0 < (l.length : Int) := by omega
      have hn : l = [] := List.eq_nil_of_length_eq_zero (by omega)
      clear HS hi
      subst hn
      go_wp2_with fail
      go_meet
      exact ⟨rfl, rfl⟩
  obtain ⟨rfl, rfl⟩ := hcut
  go_upto_if 12 with (fail)
  go_cut [3] from 5 (fun iv wx => iv = .int .i64 i ∧ wx = wc)
  case first =>
    cases hm : Nm.hb 45 l
    · rw [hm] at hi
      obtain rfl : i = 0 := hi
      go_wp2_with fail
      go_meet
      exact ⟨rfl, rfl⟩
    · rw [hm] at hi
      obtain rfl : i = 1 := hi
      go_wp2_with fail
      go_meet
      exact ⟨rfl, rfl⟩
  obtain ⟨rfl, rfl⟩ := hcut
  clear hi
  go_wp2_with fail
  refine (hdg i _).mono ?_
  rintro e w2 ⟨rfl, rfl⟩
  cases hd : Nm.hd (l.drop i)
  · go_wp2
    go_returns
    have := HS.out
    rw [hd, if_neg (by simp)] at this
    exact ⟨by rw [this]; rfl, rfl⟩
  have hlt : i < l.length := Nat.lt_of_not_le fun hh => by rw [List.drop_eq_nil_of_le hh] at hd; cases hd
  have e1 : 0 ≤ (i : Int) ∧ (i : Int) < l.length := by omega
  have hwf := whole_at hd
  obtain ⟨x, hx⟩ : ∃ x : Int, nth l i = x := ⟨_, rfl⟩
  rw [hx] at hwf
  obtain ⟨j, hj⟩ : ∃ j : Nat, j = i + Nm.wholeF (l.drop i) := ⟨_, rfl⟩
  have hjl : j ≤ l.length := by have := Nm.wholeF_le (l.drop i); rw [List.length_drop] at this; omega
  have HS2 : Hid (ans = j + Nm.restF (l.drop j)) := by
    have := HS.out
    rw [hd, if_pos rfl, ← hj] at this
    exact this
  clear HS hd
  have HJ := Lib.hid (show j = i + if x = 48 then 1 else Nm.run (l.drop i) by rw [hj, hwf])
  clear hj hwf
  have hw1 : IntKind.i64.wrap ((i : Int) + 1) = (i : Int) + 1 := IntWalk.i64_in _ (by omega)
  go_upto_if 20 with (fail)
  go_cut [3] from 5 (fun jv wx => jv = .int .i64 j ∧ wx = wc)
  case first =>
    by_cases h48 : x = 48
    · have hj : j = i + 1 := by rw [HJ.out, if_pos h48]
      clear HJ
      subst h48
      go_wp2_with fail
      go_meet
      exact ⟨by rw [hj]; rfl, rfl⟩
    · have hj : j = i + Nm.run (l.drop i) := by rw [HJ.out, if_neg h48]
      have b48 : (x == 48) = false := by simpa using h48
      have HJ2 := Lib.hid hj
      clear HJ hj
      go_wp2_with fail
      refine (hrn i _ hl).mono ?_
      rintro e w2 ⟨rfl, rfl⟩
      go_wp2_with fail
      go_meet
      exact ⟨by rw [HJ2.out, Int.natCast_add], rfl⟩
  obtain ⟨rfl, rfl⟩ := hcut
  clear HJ hx hw1 e1
  -- a point and digits
  have hdj : ∀ w, Calls Tryd.prog 53 #[.string (str l), .int .i64 ((j : Int) + 1)] w fun e w' => e = .returned (.bool (Nm.hd (l.drop (j + 1)))) ∧ w = w' := fun w => hdg (j + 1) w
  have hw2 : IntKind.i64.wrap ((j : Int) + 1) = (j : Int) + 1 := IntWalk.i64_in _ (by omega)
  obtain ⟨fb, hfb⟩ : ∃ fb : Bool, fb = (Nm.hb 46 (l.drop j) && Nm.hd (l.drop (j + 1))) := ⟨_, rfl⟩
  have HF := Lib.hid hfb
  have hff : Nm.fracF (l.drop j) = if fb = true then 1 + Nm.run (l.drop (j + 1)) else 0 := by
    unfold Nm.fracF
    rw [hfb, List.drop_drop]
    cases Nm.hb 46 (l.drop j) <;> cases Nm.hd (l.drop (j + 1)) <;> rfl
  clear hfb
  go_upto_region 9 with (fail)
  go_cut [41] from 5 (fun c wx => c = .bool fb ∧ wx = wc)
  case first =>
    by_cases hlj : j < l.length
    · have e2 : 0 ≤ (j : Int) ∧ (j : Int) < l.length := by omega
      have hb := hb_drop (c := 46) hlj
      obtain ⟨x2, hx2⟩ : ∃ x : Int, nth l j = x := ⟨_, rfl⟩
      rw [hx2] at hb
      have HB := Lib.hid hb
      clear hb
      by_cases h46 : x2 = 46
      · subst h46
        go_wp2_with fail
        refine (hdj _).mono ?_
        rintro e w2 ⟨rfl, rfl⟩
        go_wp2_with fail
        go_meet
        exact ⟨by rw [HF.out, HB.out]; rfl, rfl⟩
      · have b46 : (x2 == 46) = false := by simpa using h46
        go_wp2_with fail
        go_meet
        exact ⟨by rw [HF.out, HB.out, decide_eq_false (by simpa using h46)]; rfl, rfl⟩
    · have e2 : ¬(j : Int) < l.length := by omega
      have e3 : l.length ≤ j := by omega
      have HB := Lib.hid (hb_past (c := 46) hlj)
      go_wp2_with fail
      go_meet
      exact ⟨by rw [HF.out, HB.out]; rfl, rfl⟩
  obtain ⟨rfl, rfl⟩ := hcut
  clear HF
  obtain ⟨k, hk⟩ : ∃ k : Nat, k = j + Nm.fracF (l.drop j) := ⟨_, rfl⟩
  have hkl : k ≤ l.length := by have := Nm.fracF_le (l.drop j); rw [List.length_drop] at this; omega
  have HS3 : Hid (ans = k + Nm.expF (l.drop k)) := by
    have := HS2.out
    rw [Nm.restF, List.drop_drop, ← hk] at this
    show ans = k + Nm.expF (l.drop k)
    omega
  rw [hff] at hk
  have HK := Lib.hid hk
  clear HS2 hff hk
  go_upto_if 41 with (fail)
  go_cut [3] from 5 (fun c wx => c = .int .i64 k ∧ wx = wc)
  case first =>
    cases fb
    · have hk : k = j := HK.out
      clear HK
      go_wp2_with fail
      go_meet
      exact ⟨by rw [hk], rfl⟩
    · have HK2 : Hid (k = j + 1 + Nm.run (l.drop (j + 1))) := by
        have := HK.out
        rw [if_pos rfl] at this
        show k = j + 1 + Nm.run (l.drop (j + 1))
        omega
      clear HK
      have hr : ∀ w, Calls Tryd.prog 54 #[.string (str l), .int .i64 ((j : Int) + 1)] w fun e w' => e = .returned (.int .i64 ((j + 1 + Nm.run (l.drop (j + 1)) : Nat) : Int)) ∧ w = w' := fun w => hrn (j + 1) w hl
      rw [← HK2.out] at hr
      go_wp2_with fail
      refine (hr _).mono ?_
      rintro e w2 ⟨rfl, rfl⟩
      go_wp2_with fail
      go_meet
      exact ⟨rfl, rfl⟩
  obtain ⟨rfl, rfl⟩ := hcut
  clear HK hdj hw2
  go_upto_region 11 with (fail)
  go_cut [61] from 5 (fun c wx => c = .bool (Nm.hE (l.drop k)) ∧ wx = wc)
  case first =>
    by_cases hlk : k < l.length
    · have e2 : 0 ≤ (k : Int) ∧ (k : Int) < l.length := by omega
      have hb1 := hb_drop (c := 101) hlk
      have hb2 := hb_drop (c := 69) hlk
      obtain ⟨x2, hx2⟩ : ∃ x : Int, nth l k = x := ⟨_, rfl⟩
      rw [hx2] at hb1 hb2
      have HB : Hid (Nm.hE (l.drop k) = (decide (x2 = 101) || decide (x2 = 69))) := by
        show Nm.hE (l.drop k) = _
        rw [Nm.hE, hb1, hb2]; rfl
      clear hb1 hb2
      by_cases h1 : x2 = 101
      · subst h1
        go_wp2_with fail
        go_meet
        exact ⟨by rw [HB.out]; rfl, rfl⟩
      · have b1 : (x2 == 101) = false := by simpa using h1
        by_cases h2 : x2 = 69
        · subst h2
          go_wp2_with fail
          go_meet
          exact ⟨by rw [HB.out]; rfl, rfl⟩
        · have b2 : (x2 == 69) = false := by simpa using h2
          go_wp2_with fail
          go_meet
          exact ⟨by rw [HB.out, decide_eq_false h1, decide_eq_false h2]; rfl, rfl⟩
    · have e2 : ¬(k : Int) < l.length := by omega
      have e3 : l.length ≤ k := by omega
      have HB : Hid (Nm.hE (l.drop k) = false) := by
        show Nm.hE (l.drop k) = false
        rw [Nm.hE, hb_past hlk, hb_past hlk]; rfl
      go_wp2_with fail
      go_meet
      exact ⟨by rw [HB.out], rfl⟩
  obtain ⟨rfl, rfl⟩ := hcut
  cases hE : Nm.hE (l.drop k)
  · go_wp2
    go_returns
    have := HS3.out
    rw [Nm.expF, hE, if_neg (by simp)] at this
    exact ⟨by rw [this]; rfl, rfl⟩
  have hlk : k < l.length := Nat.lt_of_not_le fun hh => by rw [List.drop_eq_nil_of_le hh] at hE; cases hE
  have hw3 : IntKind.i64.wrap ((k : Int) + 1) = (k : Int) + 1 := IntWalk.i64_in _ (by omega)
  have hw4 : IntKind.i64.wrap ((k : Int) + 1 + 1) = (k : Int) + 1 + 1 := IntWalk.i64_in _ (by omega)
  obtain ⟨m, hm⟩ : ∃ m : Nat, m = k + 1 + if Nm.hS (l.drop (k + 1)) = true then 1 else 0 := ⟨_, rfl⟩
  have HS4 : Hid (ans = if Nm.hd (l.drop m) = true then m + Nm.run (l.drop m) else k) := by
    have h1 := HS3.out
    rw [Nm.expF, hE, List.drop_drop] at h1
    show ans = if Nm.hd (l.drop m) = true then m + Nm.run (l.drop m) else k
    have hpw : Nm.powF (l.drop (k + 1)) = if Nm.hd (l.drop m) = true then (m - (k + 1)) + Nm.run (l.drop m) else 0 := by
      unfold Nm.powF
      rw [List.drop_drop]
      cases hs : Nm.hS (l.drop (k + 1))
      · rw [hs] at hm
        obtain rfl : m = k + 1 := hm
        simp
      · rw [hs] at hm
        obtain rfl : m = k + 1 + 1 := hm
        simp
    rw [hpw] at h1
    by_cases hd : Nm.hd (l.drop m) = true
    · have hr := Nm.run_pos.2 hd
      have hmk : k + 1 ≤ m := by rw [hm]; omega
      rw [if_pos hd] at h1 ⊢
      rw [if_pos ⟨rfl, by omega⟩] at h1
      omega
    · rw [if_neg hd] at h1 ⊢
      rw [if_neg (by simp)] at h1
      omega
  have HM := Lib.hid hm
  clear HS3 hE hm
  go_upto_region 13 with (fail)
  go_cut [79] from 5 (fun c wx => c = .bool (Nm.hS (l.drop (k + 1))) ∧ wx = wc)
  case first =>
    clear HM HS4
    by_cases hl1 : k + 1 < l.length
    · have e2 : 0 ≤ (k : Int) + 1 ∧ (k : Int) + 1 < l.length := by omega
      have hb1 := hb_drop (c := 43) hl1
      have hb2 := hb_drop (c := 45) hl1
      have hn : nth l ((k : Int) + 1).toNat = nth l (k + 1) := by congr 1
      obtain ⟨x2, hx2⟩ : ∃ x : Int, nth l (k + 1) = x := ⟨_, rfl⟩
      rw [hx2] at hb1 hb2 hn
      have HB : Hid (Nm.hS (l.drop (k + 1)) = (decide (x2 = 43) || decide (x2 = 45))) := by
        show Nm.hS (l.drop (k + 1)) = _
        rw [Nm.hS, hb1, hb2]; rfl
      clear hb1 hb2
      by_cases h1 : x2 = 43
      · subst h1
        go_wp2_with fail
        go_meet
        exact ⟨by rw [HB.out]; rfl, rfl⟩
      · have b1 : (x2 == 43) = false := by simpa using h1
        by_cases h2 : x2 = 45
        · subst h2
          go_wp2_with fail
          go_meet
          exact ⟨by rw [HB.out]; rfl, rfl⟩
        · have b2 : (x2 == 45) = false := by simpa using h2
          go_wp2_with fail
          go_meet
          exact ⟨by rw [HB.out, decide_eq_false h1, decide_eq_false h2]; rfl, rfl⟩
    · have e2 : ¬(k : Int) + 1 < l.length := by omega
      have e3 : (l.length : Int) ≤ (k : Int) + 1 := by omega
      have e4 : l.length ≤ k + 1 := by omega
      have HB : Hid (Nm.hS (l.drop (k + 1)) = false) := by
        show Nm.hS (l.drop (k + 1)) = false
        rw [Nm.hS, hb_past hl1, hb_past hl1]; rfl
      go_wp2_with fail
      go_meet
      exact ⟨by rw [HB.out], rfl⟩
  obtain ⟨rfl, rfl⟩ := hcut
  go_upto_if 79 with (fail)
  go_cut [4] from 5 (fun c wx => c = .int .i64 m ∧ wx = wc)
  case first =>
    cases hs : Nm.hS (l.drop (k + 1))
    · have hm : m = k + 1 := by have := HM.out; rw [hs] at this; exact this
      clear HM HS4
      go_wp2_with fail
      go_meet
      exact ⟨by rw [hm]; rfl, rfl⟩
    · have hm : m = k + 1 + 1 := by have := HM.out; rw [hs] at this; exact this
      clear HM HS4
      go_wp2_with fail
      go_meet
      exact ⟨by rw [hm]; rfl, rfl⟩
  obtain ⟨rfl, rfl⟩ := hcut
  go_wp2_with fail
  refine (hdg m _).mono ?_
  rintro e w2 ⟨rfl, rfl⟩
  cases hd : Nm.hd (l.drop m)
  · have := HS4.out
    rw [hd, if_neg (by simp)] at this
    clear HS4 HM
    go_wp2
    go_returns
    exact ⟨by rw [this]; rfl, rfl⟩
  · have := HS4.out
    rw [hd, if_pos rfl] at this
    have HA := Lib.hid this
    clear HS4 HM this
    go_wp2_with fail
    refine (hrn m _ hl).mono ?_
    rintro e w2 ⟨rfl, rfl⟩
    go_wp2
    go_returns
    exact ⟨by rw [HA.out, Int.natCast_add]; rfl, rfl⟩
end Go.Proofs.YthabfgpncebigaaDoor

/- tabulariumref06: Right. -/
namespace Go.Proofs.YthabfgpncebigaaDoor
open Go.RowKit

theorem right_cons {ng : Bool} {ds : List UInt8} {ex : Int} (h0 : ds ≠ []) : Nm.right ⟨ng, ds, ex⟩ = (decide (ds.length ≤ 1000) && (ds.all Nm.dig && (!(ds.getD 0 0 == 48) && (!(ds.getD (ds.length - 1) 0 == 48) && (decide (ex ≤ 10000) && decide (-10000 ≤ ex)))))) := by unfold Nm.right; rw [if_neg h0]
theorem right_no {n : Nm.Nu} (h0 : n.ds ≠ []) (h : ¬n.ds.length ≤ 1000 ∨ ¬n.ex ≤ 10000 ∨ ¬-10000 ≤ n.ex ∨ n.ds.all Nm.dig = false) : Nm.right n = false := by
  obtain ⟨ng, ds, ex⟩ := n
  rw [right_cons h0]
  rcases h with h | h | h | h
  · rw [decide_eq_false h]; rfl
  · rw [show decide (ex ≤ 10000) = false from decide_eq_false h]; simp
  · rw [show decide (-10000 ≤ ex) = false from decide_eq_false h]; simp
  · rw [show ds.all Nm.dig = false from h]; simp

set_option maxHeartbeats 2000000 in
set_option maxRecDepth 100000 in
theorem rright_any (n : Nm.Nu) (w : World) (hl : n.ds.length ≤ 4611686018427387904) : Calls Tryd.prog 55 #[numA n] w fun e w' => e = .returned (.bool (Nm.right n)) ∧ Below w.heap.size w w' := by
  obtain ⟨ng, ds, ex⟩ := n
  unfold numA
  simp only at hl ⊢
  have hdg := rdigit_any ds
  by_cases h0 : ds = []
  · subst h0
    cases ng <;> by_cases hx : ex = 0
    · subst hx
      go_enter Tryd.func55, Tryd.ntmps55
      go_wp2
      go_returns
      exact ⟨rfl, by go_grown⟩
    all_goals
      have hr : ∀ m : Nm.Nu, m.ds = [] → m ≠ Nm.Nu.zero → Nm.right m = false := fun m h1 h2 => by unfold Nm.right; rw [if_pos h1]; exact decide_eq_false h2
      have hb : (ex == 0) = decide (ex = 0) := rfl
      rw [hr _ rfl (by simp [Nm.Nu.zero]; try exact hx)]
      go_enter Tryd.func55, Tryd.ntmps55
      go_wp2
      all_goals (go_returns; exact ⟨rfl, by go_grown⟩)
  · have hno := fun h => right_no (n := ⟨ng, ds, ex⟩) h0 h
    have hpos : 0 < ds.length := Nat.pos_of_ne_zero fun h => h0 (List.eq_nil_of_length_eq_zero h)
    have hpi : ¬(ds.length : Int) = 0 := by omega
    have hpb : ((ds.length : Int) == 0) = false := by simpa using hpi
    by_cases h1 : ds.length ≤ 1000
    · by_cases h2 : -10000 ≤ ex
      · by_cases h3 : ex ≤ 10000
        · have i1 : (ds.length : Int) ≤ 1000 := by omega
          have i3 : ¬1000 < (ds.length : Int) := by omega
          have HR := Lib.hid (right_cons (ng := ng) (ex := ex) h0)
          have HN := Lib.hid (fun h => hno (.inr (.inr (.inr h))))
          clear hno
          go_enter Tryd.func55, Tryd.ntmps55
          go_wp2
          go_loop [3] (fun iv => ∃ j : Nat, iv = .int .i64 j ∧ j ≤ ds.length ∧ Hid ((ds.take j).all Nm.dig = true)) (fun iv => ds.length - (intOf iv).toNat)
          case atStart => exact ⟨0, rfl, Nat.zero_le _, rfl⟩
          case round =>
            obtain ⟨j, rfl, hj, HJ⟩ := hrel
            by_cases hlt : j < ds.length
            · have d1 : (j : Int) < ds.length := by omega
              have hw1 : IntKind.i64.wrap ((j : Int) + 1) = (j : Int) + 1 := IntWalk.i64_in _ (by omega)
              have hd := hdg j
              have hdq : Nm.hd (ds.drop j) = Nm.dig ds[j] := by rw [List.drop_eq_getElem_cons hlt]; rfl
              cases hb : Nm.hd (ds.drop j)
              · rw [hb] at hd hdq
                have hall : ds.all Nm.dig = false := by
                  rw [← Bool.not_eq_true, List.all_eq_true]
                  intro hh
                  have := hh _ (List.getElem_mem hlt)
                  rw [← hdq] at this; cases this
                have HN2 := Lib.hid (HN.out hall)
                clear HN HR hall hb hdq HJ
                go_wp2_with fail
                refine (hd _).mono ?_
                rintro e w2 ⟨rfl, rfl⟩
                go_wp2
                go_returns
                exact ⟨by rw [HN2.out]; rfl, by go_grown⟩
              · rw [hb] at hd hdq
                have HJ2 : Hid ((ds.take (j + 1)).all Nm.dig = true) := by
                  show (ds.take (j + 1)).all Nm.dig = true
                  rw [List.take_succ_eq_append_getElem hlt, List.all_append, HJ.out, List.all_cons, ← hdq]; rfl
                clear HN HR hb hdq HJ
                go_wp2_with fail
                refine (hd _).mono ?_
                rintro e w2 ⟨rfl, rfl⟩
                go_wp2_with fail
                go_round
                case rel => exact ⟨j + 1, by simp, hlt, HJ2⟩
                case measure => simp [intOf]; omega
            · obtain rfl : j = ds.length := by omega
              have HA : Hid (ds.all Nm.dig = true) := by
                have := HJ.out
                rw [List.take_length] at this
                exact this
              obtain ⟨x0, hx0⟩ : ∃ x0, nth ds 0 = x0 := ⟨_, rfl⟩
              obtain ⟨x1, hx1⟩ : ∃ x1, nth ds (ds.length - 1) = x1 := ⟨_, rfl⟩
              have HR2 : Hid (Nm.right ⟨ng, ds, ex⟩ = (!(x0 == 48) && !(x1 == 48))) := by
                show Nm.right ⟨ng, ds, ex⟩ = (!(x0 == 48) && !(x1 == 48))
                have b0 : (x0 == 48) = (ds.getD 0 0 == 48) := by rw [← hx0, nth]; exact nth48 _
                have b1 : (x1 == 48) = (ds.getD (ds.length - 1) 0 == 48) := by rw [← hx1, nth]; exact nth48 _
                rw [HR.out, HA.out, b0, b1, decide_eq_true h1, decide_eq_true h2, decide_eq_true h3]
                simp
              clear HR HN HJ HA
              have j1 : IntKind.i64.wrap ((ds.length : Int) - 1) = (ds.length : Int) - 1 := IntWalk.i64_in _ (by omega)
              have j2 : 0 ≤ (ds.length : Int) - 1 ∧ (ds.length : Int) - 1 < ds.length := by omega
              have j3 : nth ds ((ds.length : Int) - 1).toNat = x1 := by rw [← hx1]; congr 1; omega
              have j4 : 0 < (ds.length : Int) := by omega
              by_cases k0 : x0 = 48
              · subst k0
                go_wp2
                go_returns
                exact ⟨by rw [HR2.out]; rfl, by go_grown⟩
              have k0' : (x0 == 48) = false := by simpa using k0
              have k0n : (x0 != 48) = true := by simpa using k0
              by_cases k1 : x1 = 48
              · subst k1
                go_wp2
                go_returns
                exact ⟨by rw [HR2.out, k0']; rfl, by go_grown⟩
              have k1' : (x1 == 48) = false := by simpa using k1
              have k1n : (x1 != 48) = true := by simpa using k1
              go_wp2
              go_returns
              exact ⟨by rw [HR2.out, k0', k1']; rfl, by go_grown⟩
        · have i1 : ¬(1000 < (ds.length : Int)) := by omega
          rw [hno (.inr (.inl h3))]
          clear hno
          go_enter Tryd.func55, Tryd.ntmps55
          go_wp2
          go_returns
          exact ⟨rfl, by go_grown⟩
      · have i1 : ¬(1000 < (ds.length : Int)) := by omega
        rw [hno (.inr (.inr (.inl h2)))]
        clear hno
        go_enter Tryd.func55, Tryd.ntmps55
        go_wp2
        go_returns
        exact ⟨rfl, by go_grown⟩
    · have i1 : (1000 < (ds.length : Int)) := by omega
      rw [hno (.inl h1)]
      clear hno
      go_enter Tryd.func55, Tryd.ntmps55
      go_wp2
      go_returns
      exact ⟨rfl, by go_grown⟩
end Go.Proofs.YthabfgpncebigaaDoor

/- tabulariumref06: Parse. -/
namespace Go.Proofs.YthabfgpncebigaaDoor
open Go.RowKit

set_option maxHeartbeats 4000000 in
set_option maxRecDepth 100000 in
theorem rparse_any (l : List UInt8) (w : World) (hl : l.length ≤ 100000000) :
    Calls Tryd.prog 35 #[.string (str l)] w fun e w' => e = .returned (.tuple #[numA (Nm.numV l).1, .int .i64 (Nm.numV l).2]) ∧ Below w.heap.size w w' := by
  have hsc := fun w => rscan_any l w (by omega)
  by_cases hg : Nm.scan l = l.length ∧ l ≠ []
  · obtain ⟨p, hp, htx, hv⟩ := Nm.numV_ok hg
    obtain ⟨L1, L2, L3⟩ := Nm.P_len p hp
    rw [← htx] at L1 L2 L3
    rw [hv]
    obtain ⟨ans, hans⟩ : ∃ ans, ans = Nm.numB p (Nm.valR 0 p.d) := ⟨_, rfl⟩
    rw [← hans]
    have HANS := Lib.hid hans
    clear hans
    rw [hg.1] at hsc
    have h0 : ¬l = [] := hg.2
    have hpos : 0 < l.length := Nat.pos_of_ne_zero fun h => h0 (List.eq_nil_of_length_eq_zero h)
    have hpi : ¬(l.length : Int) = 0 := by omega
    have hpb : ((l.length : Int) == 0) = false := by simpa using hpi
    have hnb : ((l.length : Int) != l.length) = false := by simp
    have hM1 := Nm.m1_parts p hp
    have hM2 := Nm.m2_parts p hp
    obtain ⟨i0, hi0⟩ : ∃ i0 : Nat, i0 = if p.ng = true then 1 else 0 := ⟨_, rfl⟩
    have hdr : l.drop i0 = p.W ++ (p.fr ++ p.exE) := by
      rw [htx, hi0]
      unfold Nm.Parts.text Nm.Parts.sg
      cases p.ng <;> simp
    have hx0 : decide (nth l 0 = 45) = p.ng := by
      rw [show (45 : Int) = ((45 : Nat) : Int) from rfl, ← hb_drop (c := 45) hpos, List.drop_zero, htx]
      unfold Nm.Parts.text Nm.Parts.sg
      cases p.ng
      · cases hw : p.W with
        | nil => exact absurd hw hp.w0
        | cons b r =>
          have := (Nm.dig_ne ((Nm.digs_cons.1 (hw ▸ hp.w)).1)).1
          simp only [Bool.false_eq_true, if_false, List.nil_append, List.cons_append, Nm.hb]
          exact decide_eq_false fun h => this (UInt8.toNat_inj.1 h)
      · rfl
    rw [← hdr] at hM1
    have HI0 := Lib.hid hi0
    have HM1 := Lib.hid hM1
    have HM2 := Lib.hid hM2
    have HDR := Lib.hid hdr
    obtain ⟨x, hx⟩ : ∃ x : Int, nth l 0 = x := ⟨_, rfl⟩
    rw [hx] at hx0
    have HX0 := Lib.hid hx0
    have e1 : 0 < (l.length : Int) := by omega
    clear hM1 hM2 hdr hi0 htx hv hg hx0
    go_enter Tryd.func35, Tryd.ntmps35
    go_wp2_with fail
    refine (hsc _).mono ?_
    rintro e w2 ⟨rfl, rfl⟩
    clear hsc
    go_upto_if 23 with (fail)
    go_cut [5] from 9 (fun iv wx => iv = .int .i64 i0 ∧ wx = (w.alloc (.cells #[.bool false, .string ⟨#[]⟩, .int .i64 0] 58)).alloc (.cells #[.bool p.ng, .string ⟨#[]⟩, .int .i64 0] 58))
    case first =>
      by_cases hx45 : x = 45
      · have hn : p.ng = true := by rw [← HX0.out]; exact decide_eq_true hx45
        rw [hn] at HI0
        obtain rfl : i0 = 1 := HI0.out
        clear HI0 HX0 HM1 HM2 HDR
        subst hx45
        go_wp2_with fail
        go_meet
        exact ⟨rfl, by rw [hn]⟩
      · have hn : p.ng = false := by rw [← HX0.out]; exact decide_eq_false hx45
        have b45 : (x == 45) = false := by simpa using hx45
        rw [hn] at HI0
        obtain rfl : i0 = 0 := HI0.out
        clear HI0 HX0 HM1 HM2 HDR
        go_wp2_with fail
        go_meet
        exact ⟨rfl, by rw [hn]⟩
    obtain ⟨rfl, rfl⟩ := hcut
    have hi0l : i0 ≤ l.length := by have := HI0.out; rw [this]; split <;> omega
    clear HI0 HX0 hx
    go_upto_block 0 with fail
    go_cut [5] from 25 to 70 (fun iv wx => ∃ (i q : Nat), iv = .int .i64 i ∧ i ≤ l.length ∧ Hid (l.drop i = p.exE) ∧ wx = later ((w.alloc (.cells #[.bool false, .string ⟨#[]⟩, .int .i64 0] 58)).alloc (.cells #[.bool p.ng, .string (str (Nm.lz (p.W ++ p.f))), .int .i64 (-(p.f.length : Int))] 58)) q #[])
    case first =>
      go_wp2_with fail
      go_loopg [5, 6] (l.length - i0) (fun g iv pv wr => ∃ (i : Nat) (pt : Bool) (dg : List UInt8) (ex : Int) (q : Nat), g = l.length - i ∧ iv = .int .i64 i ∧ pv = .bool pt ∧ i ≤ l.length ∧ dg.length ≤ i ∧ (-(i : Int) ≤ ex ∧ ex ≤ 0) ∧ Hid (Nm.m1 pt dg ex (l.drop i) = (Nm.lz (p.W ++ p.f), -(p.f.length : Int), p.exE)) ∧ wr = later ((w.alloc (.cells #[.bool false, .string ⟨#[]⟩, .int .i64 0] 58)).alloc (.cells #[.bool p.ng, .string (str dg), .int .i64 ex] 58)) q #[])
      case atStart => exact ⟨i0, false, [], 0, w.drawn, rfl, rfl, rfl, hi0l, Nat.zero_le _, by omega, HM1, rfl⟩
      case round =>
        obtain ⟨i, pt, dg, ex, q, rfl, rfl, rfl, hi, hdl, hex, HM, rfl⟩ := hrel
        clear HM1 HM2 HDR
        by_cases hlt : i < l.length
        · have d1 : (i : Int) < l.length := by omega
          have d2 : 0 ≤ (i : Int) ∧ (i : Int) < l.length := by omega
          have hw1 : IntKind.i64.wrap ((i : Int) + 1) = (i : Int) + 1 := IntWalk.i64_in _ (by omega)
          have hw2 : IntKind.i64.wrap (ex - 1) = ex - 1 := IntWalk.i64_in _ (by omega)
          obtain ⟨b, hb⟩ : ∃ b, b = l[i] := ⟨_, rfl⟩
          have hdc : l.drop i = b :: l.drop (i + 1) := by rw [hb]; exact List.drop_eq_getElem_cons hlt
          have hnx : nth l i = (b.toNat : Int) := by rw [nth_eq hlt, hb]
          have hM := HM.out
          rw [hdc, Nm.m1] at hM
          clear HM
          by_cases hE : b = 101 ∨ b = 69
          · rw [if_pos hE] at hM
            simp only [Prod.mk.injEq] at hM
            obtain ⟨rfl, rfl, hex2⟩ := hM
            have HX : Hid (l.drop i = p.exE) := hdc.trans hex2
            clear hdc hex2
            rcases hE with rfl | rfl
            · have hnx2 : nth l i = 101 := hnx
              clear hnx
              go_wp2_with fail
              go_meet
              exact ⟨i, q, rfl, hi, HX, rfl⟩
            · have hnx2 : nth l i = 69 := hnx
              clear hnx
              go_wp2_with fail
              go_meet
              exact ⟨i, q, rfl, hi, HX, rfl⟩
          · rw [if_neg hE] at hM
            have n1 : ¬nth l i = 101 := fun h => hE (.inl (UInt8.toNat_inj.1 (by rw [hnx] at h; show b.toNat = 101; omega)))
            have n2 : ¬nth l i = 69 := fun h => hE (.inr (UInt8.toNat_inj.1 (by rw [hnx] at h; show b.toNat = 69; omega)))
            by_cases h46 : b = 46
            · rw [if_pos h46] at hM
              have hnx2 : nth l i = 46 := by rw [hnx, h46]; rfl
              have HM2 := Lib.hid hM
              clear hM hdc n1 n2 hE hnx hb
              go_wp2_with fail
              go_roundg (l.length - (i + 1))
              case measure => omega
              case rel => exact ⟨i + 1, true, dg, ex, q, rfl, by simp, rfl, hlt, by omega, by omega, HM2, rfl⟩
            · rw [if_neg h46] at hM
              have n3 : ¬nth l i = 46 := fun h => h46 (UInt8.toNat_inj.1 (by rw [hnx] at h; show b.toNat = 46; omega))
              obtain ⟨x, hx⟩ : ∃ x : Int, nth l i = x := ⟨_, rfl⟩
              rw [hx] at n1 n2 n3
              have m1 : (x != 101) = true := by simpa using n1
              have m2 : (x != 69) = true := by simpa using n2
              have m3 : (x == 46) = false := by simpa using n3
              obtain ⟨ex2, hex2⟩ : ∃ ex2 : Int, ex2 = if pt = true then ex - 1 else ex := ⟨_, rfl⟩
              rw [← hex2] at hM
              have HM2 := Lib.hid hM
              have HE2 := Lib.hid hex2
              have hex3 : -((i + 1 : Nat) : Int) ≤ ex2 ∧ ex2 ≤ 0 := by rw [hex2]; split <;> omega
              have hgl : (Nm.grow dg b).length ≤ i + 1 := by unfold Nm.grow; split <;> (try simp) <;> omega
              have HX := Lib.hid (hx.symm.trans hnx)
              have HG := Lib.hid (And.intro hex3 hgl)
              clear hM hdc hE hex2 hnx hb hex3 hgl
              go_upto_if 47 with (fail)
              go_cut [] from 25 to 70 (fun wx => wx = later ((w.alloc (.cells #[.bool false, .string ⟨#[]⟩, .int .i64 0] 58)).alloc (.cells #[.bool p.ng, .string (str dg), .int .i64 ex2] 58)) q #[])
              case first =>
                clear HM2 HX HG n1 n2 n3 m1 m2 m3
                cases pt
                · have he : ex2 = ex := HE2.out
                  clear HE2
                  subst he
                  go_wp2_with fail
                  go_meet
                  exact rfl
                · have he : ex2 = ex - 1 := HE2.out
                  have HE3 := Lib.hid he
                  clear HE2 he
                  go_wp2_with fail
                  go_meet
                  exact by rw [HE3.out]
              obtain rfl := hcut
              clear HE2 hw2 n1 n2 n3 m1 m2 m3
              have g1 : 0 ≤ (i : Int) ∧ (i : Int) ≤ (i : Int) + 1 ∧ (i : Int) + 1 ≤ l.length := by omega
              have hsl : (l.drop i).take 1 = [b] := by
                have := List.drop_eq_getElem_cons hlt
                rw [this]
                have h2 := HX.out
                rw [hx.symm, nth_eq hlt] at h2
                rw [List.take_succ_cons, List.take_zero, show l[i] = b from UInt8.toNat_inj.1 (by omega)]
              have g2 : ((i : Int) + 1).toNat - i = 1 := by omega
              have g3 : dg.length + ([b] : List UInt8).length ≤ 9223372036854775807 := by simp; omega
              by_cases hd0 : dg = []
              · subst hd0
                by_cases h48 : x = 48
                · have hgr : Nm.grow [] b = [] := by
                    have h2 := HX.out
                    unfold Nm.grow
                    rw [if_neg (by rintro (h | h); exact h rfl; exact h (UInt8.toNat_inj.1 (by show b.toNat = 48; omega)))]
                  rw [hgr] at HM2 HG
                  have HG2 := HG
                  clear HG HX hgr hsl
                  subst h48
                  go_wp2_with fail
                  go_roundg (l.length - (i + 1))
                  case measure => omega
                  case rel => exact ⟨i + 1, pt, [], ex2, q, rfl, by simp, rfl, hlt, HG2.out.2, HG2.out.1, HM2, rfl⟩
                · have hgr : Nm.grow [] b = [] ++ [b] := by
                    have h2 := HX.out
                    unfold Nm.grow
                    rw [if_pos (.inr fun h => h48 (by rw [h2, h]; rfl))]
                  have b48 : (x != 48) = true := by simpa using h48
                  rw [hgr] at HM2 HG
                  clear HX hgr
                  go_upto_region 16 with (fail)
                  go_region
                  all_goals
                    go_wp2_with fail
                    go_roundg (l.length - (i + 1))
                    case measure => omega
                    case rel => exact ⟨i + 1, pt, [b], ex2, q + 1, rfl, by simp, rfl, hlt, HG.out.2, HG.out.1, HM2, rfl⟩
              · have hgr : Nm.grow dg b = dg ++ [b] := by
                  unfold Nm.grow
                  rw [if_pos (.inl hd0)]
                rw [hgr] at HM2 HG
                have hdp : 0 < dg.length := Nat.pos_of_ne_zero fun h => hd0 (List.eq_nil_of_length_eq_zero h)
                clear HX hgr
                go_upto_region 16 with (fail)
                go_region
                all_goals
                  go_wp2_with fail
                  go_roundg (l.length - (i + 1))
                  case measure => omega
                  case rel => exact ⟨i + 1, pt, dg ++ [b], ex2, q + 1, rfl, by simp, rfl, hlt, HG.out.2, HG.out.1, HM2, rfl⟩
        · obtain rfl : i = l.length := by omega
          have hM := HM.out
          rw [List.drop_eq_nil_of_le (Nat.le_refl _), Nm.m1] at hM
          simp only [Prod.mk.injEq] at hM
          obtain ⟨rfl, rfl, hex2⟩ := hM
          have HX : Hid (l.drop l.length = p.exE) := by rw [← hex2]; exact List.drop_eq_nil_of_le (Nat.le_refl _)
          clear hex2 HM
          go_wp2_with fail
          go_meet
          exact ⟨l.length, q, rfl, hi, HX, rfl⟩
    obtain ⟨i, q, rfl, hi, HX, rfl⟩ := hcut
    have hdx : l.drop (i + 1) = p.ex := by
      have h1 := HX.out
      rw [← List.drop_drop (i := 1) (j := i), h1]
      unfold Nm.Parts.exE Nm.Parts.ex
      cases p.eo <;> simp
    rw [← hdx] at HM2
    have hla := Nm.lz_le (p.W ++ p.f)
    have hw1 : IntKind.i64.wrap ((i : Int) + 1) = (i : Int) + 1 := IntWalk.i64_in _ (by omega)
    rw [List.length_append] at hla
    obtain ⟨X, hX⟩ : ∃ X : Int, X = -(p.f.length : Int) := ⟨_, rfl⟩
    have hX1 : -100000000 ≤ X ∧ X ≤ 0 := by omega
    have hNB := HANS.out
    unfold Nm.numB at hNB
    dsimp only at hNB
    rw [← hX] at hNB ⊢
    clear HANS
    generalize Nm.lz (p.W ++ p.f) = all at *
    have HNB := Lib.hid hNB
    have hdig := rdigit_any l
    clear hX hNB HX hdx HM1
    obtain ⟨dnB, hdnB⟩ : ∃ dnB : Bool, dnB = decide (p.sn = [45]) := ⟨_, rfl⟩
    obtain ⟨V, hV⟩ : ∃ V : Nat, V = Nm.valR 0 p.d := ⟨_, rfl⟩
    have hV1 : V ≤ 10000000000 := by rw [hV]; exact Nm.valR_le p.d 0 hp.d (by omega)
    rw [← hdnB, ← hV] at HM2
    obtain ⟨y, hy⟩ : ∃ y : Int, y = if p.sn = [45] then -(V : Int) else V := ⟨_, rfl⟩
    have hyb : y = if dnB = true then -(V : Int) else V := by rw [hy, hdnB]; simp
    have HN2 : Hid (ans = if Nm.tz all = [] then (Nm.Nu.zero, 0) else if Nm.right ⟨p.ng, Nm.tz all, X + y + (all.length - (Nm.tz all).length)⟩ = true then (⟨p.ng, Nm.tz all, X + y + (all.length - (Nm.tz all).length)⟩, 0) else (Nm.Nu.zero, 4)) := by
      have := HNB.out
      rw [← hV, ← hy] at this
      exact this
    have HY := Lib.hid hyb
    have HV1 := Lib.hid hV1
    clear hV HNB hy hdnB hyb hV1
    go_wp2_with fail
    go_loopg [5, 7, 8] (l.length - i) (fun g iv av dv wr => ∃ (j a : Nat) (A : Int) (dn : Bool), g = l.length + 1 - j ∧ iv = .int .i64 j ∧ av = .int .i64 A ∧ dv = .bool dn ∧ j ≤ l.length + 1 ∧ Hid (A = a ∧ a ≤ 10000000000 ∧ Nm.m2 a dn (l.drop j) = (V, dnB)) ∧ wr = later ((w.alloc (.cells #[.bool false, .string ⟨#[]⟩, .int .i64 0] 58)).alloc (.cells #[.bool p.ng, .string (str all), .int .i64 X] 58)) q #[])
    case atStart => exact ⟨i + 1, 0, 0, false, by omega, by simp, rfl, rfl, by omega, ⟨rfl, by omega, HM2.out⟩, rfl⟩
    case round =>
      obtain ⟨j, a, A, dn, rfl, rfl, rfl, rfl, hj, HA, rfl⟩ := hrel
      clear HM2 HDR
      by_cases hlt : j < l.length
      · have d1 : (j : Int) < l.length := by omega
        have d2 : 0 ≤ (j : Int) ∧ (j : Int) < l.length := by omega
        have hw1 : IntKind.i64.wrap ((j : Int) + 1) = (j : Int) + 1 := IntWalk.i64_in _ (by omega)
        obtain ⟨b, hb⟩ : ∃ b, b = l[j] := ⟨_, rfl⟩
        have hdc : l.drop j = b :: l.drop (j + 1) := by rw [hb]; exact List.drop_eq_getElem_cons hlt
        have hnx : nth l j = (b.toNat : Int) := by rw [nth_eq hlt, hb]
        have hdj := hdig j
        rw [show Nm.hd (l.drop j) = Nm.dig b by rw [hdc]; rfl] at hdj
        have HS : Hid (A = a ∧ a ≤ 10000000000 ∧ Nm.m2 (if Nm.dig b = true then Nm.str9 a b else a) (dn || b == 45) (l.drop (j + 1)) = (V, dnB)) := by
          have h1 := HA.out
          rw [hdc, Nm.m2] at h1
          exact h1
        clear HA hdc hb
        have hbw := b.toNat_lt
        by_cases h45 : b = 45
        · subst h45
          have hnx2 : nth l j = 45 := hnx
          have hdj2 : ∀ w, Calls Tryd.prog 53 #[.string (str l), .int .i64 j] w fun e w' => e = .returned (.bool false) ∧ w = w' := hdj
          have HS2 : Hid (A = a ∧ a ≤ 10000000000 ∧ Nm.m2 a true (l.drop (j + 1)) = (V, dnB)) := by
            have h1 := HS.out
            rw [if_neg (by decide), show (dn || (45 : UInt8) == 45) = true by simp] at h1
            exact h1
          clear HS hnx hdj hbw
          go_wp2_with fail
          refine (hdj2 _).mono ?_
          rintro e w2 ⟨rfl, rfl⟩
          go_wp2_with fail
          go_roundg (l.length + 1 - (j + 1))
          case measure => omega
          case rel => exact ⟨j + 1, a, A, true, rfl, by simp, rfl, rfl, by omega, HS2, rfl⟩
        · obtain ⟨x, hx⟩ : ∃ x : Int, nth l j = x := ⟨_, rfl⟩
          rw [hx] at hnx
          have b45 : (x == 45) = false := by
            have : ¬x = 45 := fun h => h45 (UInt8.toNat_inj.1 (by show b.toNat = 45; omega))
            simpa using this
          rw [show (b == 45) = false by simpa using h45, Bool.or_false] at HS
          have HX := Lib.hid hnx
          clear hnx h45
          cases hdb : Nm.dig b
          · rw [hdb] at hdj
            have HS2 : Hid (A = a ∧ a ≤ 10000000000 ∧ Nm.m2 a dn (l.drop (j + 1)) = (V, dnB)) := by
              have h1 := HS.out
              rw [hdb, if_neg (by decide)] at h1
              exact h1
            clear HS HX hbw hdb
            go_wp2_with fail
            refine (hdj _).mono ?_
            rintro e w2 ⟨rfl, rfl⟩
            go_wp2_with fail
            go_roundg (l.length + 1 - (j + 1))
            case measure => omega
            case rel => exact ⟨j + 1, a, A, dn, rfl, by simp, rfl, rfl, by omega, HS2, rfl⟩
          · rw [hdb] at hdj
            have h9 := Nm.dig_le hdb
            by_cases ha : a < 1000000000
            · have HS2 : Hid (A * 10 + (x - 48) = ((a * 10 + (b.toNat - 48) : Nat) : Int) ∧ a * 10 + (b.toNat - 48) ≤ 10000000000 ∧ Nm.m2 (a * 10 + (b.toNat - 48)) dn (l.drop (j + 1)) = (V, dnB)) := by
                have h1 := HS.out
                have h2 := HX.out
                rw [hdb, if_pos rfl, Nm.str9_lt b ha] at h1
                exact ⟨by omega, by omega, h1.2.2⟩
              have hAl : decide (A < 1000000000) = true := by
                have h1 := HS.out
                exact decide_eq_true (by omega)
              have hx1 : 48 ≤ x ∧ x ≤ 57 := by have h2 := HX.out; omega
              have hu1 : IntKind.u8.wrap (x - 48) = x - 48 := IntWalk.u8_in _ (by omega)
              have hA1 : 0 ≤ A ∧ A < 1000000000 := by have h1 := HS.out; omega
              have hu2 : IntKind.i64.wrap (x - 48) = x - 48 := IntWalk.i64_in _ (by omega)
              have hu3 : IntKind.i64.wrap (A * 10) = A * 10 := IntWalk.i64_in _ (by omega)
              have hu4 : IntKind.i64.wrap (A * 10 + (x - 48)) = A * 10 + (x - 48) := IntWalk.i64_in _ (by omega)
              clear HS HX hbw hdb h9 ha hx1 hA1
              go_wp2_with fail
              refine (hdj _).mono ?_
              rintro e w2 ⟨rfl, rfl⟩
              go_wp2_with fail
              go_roundg (l.length + 1 - (j + 1))
              case measure => omega
              case rel => exact ⟨j + 1, _, A * 10 + (x - 48), dn, rfl, by simp, by simp, rfl, by omega, HS2, rfl⟩
            · have HS2 : Hid (A = a ∧ a ≤ 10000000000 ∧ Nm.m2 a dn (l.drop (j + 1)) = (V, dnB)) := by
                have h1 := HS.out
                rw [hdb, if_pos rfl, Nm.str9_ge b ha] at h1
                exact h1
              have hAl : decide (A < 1000000000) = false := by
                have h1 := HS.out
                exact decide_eq_false (by omega)
              clear HS HX hbw hdb h9 ha
              go_wp2_with fail
              refine (hdj _).mono ?_
              rintro e w2 ⟨rfl, rfl⟩
              go_wp2_with fail
              go_roundg (l.length + 1 - (j + 1))
              case measure => omega
              case rel => exact ⟨j + 1, a, A, dn, rfl, by simp, rfl, rfl, by omega, HS2, rfl⟩
      · have d1 : ¬(j : Int) < l.length := by omega
        have hf : A = V ∧ dn = dnB := by
          have h1 := HA.out
          rw [List.drop_eq_nil_of_le (by omega), Nm.m2] at h1
          simp only [Prod.mk.injEq] at h1
          exact ⟨by rw [h1.1, h1.2.2.1], h1.2.2.2⟩
        obtain ⟨rfl, rfl⟩ := hf
        have hy2 : -10000000000 ≤ y ∧ y ≤ 10000000000 := by
          have h1 := HY.out
          have h2 := HV1.out
          rw [h1]; split <;> omega
        have HY2 := Lib.hid hy2
        clear HA hy2
        go_upto_if 98 with (fail)
        go_cut [7] from 98 (fun yv wx => yv = .int .i64 y ∧ wx = later ((w.alloc (.cells #[.bool false, .string ⟨#[]⟩, .int .i64 0] 58)).alloc (.cells #[.bool p.ng, .string (str all), .int .i64 X] 58)) q #[])
        case first =>
          have HV2 := HV1.out
          have hw2 : IntKind.i64.wrap (-(V : Int)) = -(V : Int) := IntWalk.i64_in _ (by omega)
          clear HV1 HN2 HV2 HY2
          cases dn
          · have hy1 : y = V := HY.out
            have HY3 := Lib.hid hy1
            clear HY hy1
            go_wp2_with fail
            go_meet
            exact ⟨by rw [HY3.out], rfl⟩
          · have hy1 : y = -(V : Int) := HY.out
            have HY3 := Lib.hid hy1
            clear HY hy1
            go_wp2_with fail
            go_meet
            exact ⟨by rw [HY3.out], rfl⟩
        obtain ⟨rfl, rfl⟩ := hcut
        have hy2 := HY2.out
        have hw2 : IntKind.i64.wrap (X + y) = X + y := IntWalk.i64_in _ (by omega)
        have hR := rright_any
        clear HY HV1 HY2 hdig
        go_wp2_with fail
        go_loopg [106] (all.length) (fun g _ wr => ∃ (dg : List UInt8) (ex : Int), g = dg.length ∧ Hid (ex = X + y + (all.length - dg.length) ∧ Nm.tz dg = Nm.tz all) ∧ dg.length ≤ all.length ∧ (-20000000000 ≤ ex ∧ ex ≤ 20000000000) ∧ wr = later ((w.alloc (.cells #[.bool false, .string ⟨#[]⟩, .int .i64 0] 58)).alloc (.cells #[.bool p.ng, .string (str dg), .int .i64 ex] 58)) q #[])
        case atStart => exact ⟨all, X + y, rfl, ⟨by omega, rfl⟩, Nat.le_refl _, by omega, rfl⟩
        case round =>
          obtain ⟨dg, ex, rfl, HE, hle, hex, rfl⟩ := hrel
          by_cases hd0 : dg = []
          · subst hd0
            have hans : ans = (Nm.Nu.zero, 0) := by
              have h1 := HN2.out
              rw [← HE.out.2, if_pos (show Nm.tz [] = [] from rfl)] at h1
              exact h1
            have HA := Lib.hid hans
            clear hans HN2 HE
            go_wp2_with fail
            go_returns
            refine ⟨?_, ?_⟩
            · rw [HA.out]; rfl
            · (repeat' (first | (with_reducible exact Below.refl _ _) | (with_reducible assumption) | (with_reducible refine below_later' ?_ ?_ _ _) | (with_reducible refine Below.alloc ?_ ?_ _) | (with_reducible refine Below.setCell ?_ ?_ _) | (with_reducible refine Below.drew ?_) | (with_reducible refine below_drewN ?_ _) | (with_reducible exact Nat.le_refl _) | omega | (simp; done) | (simp; omega)))
          · have hdp : 0 < dg.length := Nat.pos_of_ne_zero fun h => hd0 (List.eq_nil_of_length_eq_zero h)
            have i1 : 0 ≤ (dg.length : Int) - 1 ∧ (dg.length : Int) - 1 < dg.length := by omega
            have i2 : ((dg.length : Int) - 1).toNat = dg.length - 1 := by omega
            have i3 : IntKind.i64.wrap ((dg.length : Int) - 1) = (dg.length : Int) - 1 := IntWalk.i64_in _ (by omega)
            have i4 : 0 ≤ (dg.length : Int) - 1 ∧ (dg.length : Int) - 1 ≤ dg.length := by omega
            have i5 : (1 : Int) ≤ dg.length := by omega
            obtain ⟨x, hx⟩ : ∃ x : Int, nth dg (dg.length - 1) = x := ⟨_, rfl⟩
            have hlast : dg.dropLast ++ [dg.getLast hd0] = dg := List.dropLast_concat_getLast hd0
            have hxl : x = ((dg.getLast hd0).toNat : Int) := by rw [← hx, nth_eq (by omega), List.getLast_eq_getElem]
            have hwx : IntKind.i64.wrap (ex + 1) = ex + 1 := IntWalk.i64_in _ (by omega)
            by_cases h48 : x = 48
            · have htz : Nm.tz (dg.take (dg.length - 1)) = Nm.tz all := by
                rw [← HE.out.2, ← List.dropLast_eq_take, ← hlast, List.dropLast_concat, show dg.getLast hd0 = 48 from UInt8.toNat_inj.1 (by show _ = 48; omega), Nm.tz_snoc]
              have hex1 : ex + 1 = X + y + (all.length - (dg.take (dg.length - 1)).length) := by
                have := HE.out.1
                rw [List.length_take]
                omega
              have HE2 : Hid (ex + 1 = X + y + (all.length - (dg.take (dg.length - 1)).length) ∧ Nm.tz (dg.take (dg.length - 1)) = Nm.tz all) := ⟨hex1, htz⟩
              have HL : Hid ((dg.take (dg.length - 1)).length ≤ all.length ∧ (-20000000000 ≤ ex + 1 ∧ ex + 1 ≤ 20000000000) ∧ (dg.take (dg.length - 1)).length < dg.length) := by
                have h1 := HE.out.1
                refine ⟨?_, ?_, ?_⟩
                · rw [List.length_take]; omega
                · omega
                · rw [List.length_take]; omega
              subst h48
              clear HE htz hex1 hlast hxl
              go_wp2_with fail
              go_roundg ((dg.take (dg.length - 1)).length)
              case measure => exact HL.out.2.2
              case rel => exact ⟨dg.take (dg.length - 1), ex + 1, rfl, HE2, HL.out.1, HL.out.2.1, rfl⟩
            · have b48 : (x == 48) = false := by simpa using h48
              have htz : Nm.tz all = dg := by
                rw [← HE.out.2]
                conv => lhs; rw [← hlast]
                rw [Nm.tz_stay _ _ (fun h => h48 (by rw [hxl, h]; rfl)), hlast]
              have hans := HN2.out
              rw [htz, if_neg hd0, ← HE.out.1] at hans
              have HA := Lib.hid hans
              have k1 : ¬(dg.length : Int) = 0 := by omega
              have k2 : ((dg.length : Int) == 0) = false := by simpa using k1
              have hR2 := hR ⟨p.ng, dg, ex⟩
              clear hans htz hlast hxl HN2 HE hR
              go_wp2_with fail
              refine (hR2 _ (by show dg.length ≤ _; omega)).mono ?_
              rintro e w2 ⟨rfl, hB⟩
              obtain ⟨d6, o6, rfl⟩ := later_of_below hB
              have hA := HA.out
              clear hB hR2 HA
              generalize Nm.right ⟨p.ng, dg, ex⟩ = rb at *
              cases rb
              · have HA : Hid (ans = (Nm.Nu.zero, 4)) := by rw [if_neg (by simp)] at hA; exact hA
                clear hA
                go_wp2
                go_returns
                exact ⟨by rw [HA.out]; rfl, by (repeat' (first | (with_reducible exact Below.refl _ _) | (with_reducible assumption) | (with_reducible refine below_later' ?_ ?_ _ _) | (with_reducible refine Below.alloc ?_ ?_ _) | (with_reducible refine Below.setCell ?_ ?_ _) | (with_reducible refine Below.drew ?_) | (with_reducible refine below_drewN ?_ _) | (with_reducible exact Nat.le_refl _) | omega | (simp; done) | (simp; omega)))⟩
              · have HA : Hid (ans = (⟨p.ng, dg, ex⟩, 0)) := by rw [if_pos rfl] at hA; exact hA
                clear hA
                go_wp2
                go_returns
                exact ⟨by rw [HA.out]; rfl, by (repeat' (first | (with_reducible exact Below.refl _ _) | (with_reducible assumption) | (with_reducible refine below_later' ?_ ?_ _ _) | (with_reducible refine Below.alloc ?_ ?_ _) | (with_reducible refine Below.setCell ?_ ?_ _) | (with_reducible refine Below.drew ?_) | (with_reducible refine below_drewN ?_ _) | (with_reducible exact Nat.le_refl _) | omega | (simp; done) | (simp; omega)))⟩
  · rw [Nm.numV_bad hg]
    have hle := Nm.scan_le l
    go_enter Tryd.func35, Tryd.ntmps35
    by_cases h0 : l = []
    · subst h0
      go_wp2
      go_returns
      exact ⟨rfl, by go_grown⟩
    · have hpos : ¬l.length = 0 := fun h => h0 (List.eq_nil_of_length_eq_zero h)
      have hpi : ¬(l.length : Int) = 0 := by omega
      have hpb : ((l.length : Int) == 0) = false := by simpa using hpi
      have hne : ¬(Nm.scan l : Int) = l.length := fun h => hg ⟨by omega, h0⟩
      have hnb : ((Nm.scan l : Int) != l.length) = true := by simpa using hne
      generalize Nm.scan l = sc at *
      go_wp2_with fail
      refine (hsc _).mono ?_
      rintro e w2 ⟨rfl, rfl⟩
      go_wp2
      go_returns
      exact ⟨rfl, by go_grown⟩
end Go.Proofs.YthabfgpncebigaaDoor
