/- Tokens in plain Lean: what stands ahead of the first token; what is left behind it. No program in sight. tabulariumref11.Same; lex.Same. -/
import Derived.Test.YthabfgpncebigaaDoorBL
import Derived.Test.YthabfgpncebigaaDoorBM

/- Tokens in plain Lean: what stands ahead of the first token; what is left behind it. No program in sight. -/
namespace Go.Proofs.YthabfgpncebigaaDoor.Lx

/-- What the tokens from a place on begin with. -/
def Head (l : List UInt8) (q : Nat) : List Tok → Prop
  | [] => ∀ j, (h : j < l.length) → q ≤ j → blank l[j] = true
  | t :: r => ∃ p n : Nat, q ≤ p ∧ p + n ≤ l.length ∧ 1 ≤ n ∧ t = ⟨(one (l.drop p)).k, (l.drop p).take n, p⟩ ∧ (∀ j, (h : j < l.length) → q ≤ j → j < p → blank l[j] = true) ∧
      (one (l.drop p)).e = 0 ∧ (one (l.drop p)).n = n ∧ (walk (p + n) (l.drop (p + n))).1 = r ∧ (walk (p + n) (l.drop (p + n))).2.2 = 0
theorem walk_head : ∀ (k : Nat) (l : List UInt8) (q : Nat), l.length - q < k → q ≤ l.length → (walk q (l.drop q)).2.2 = 0 → Head l q (walk q (l.drop q)).1
  | 0, _, _, h, _, _ => absurd h (Nat.not_lt_zero _)
  | k + 1, l, q, hk, hq, he => by
    by_cases hlt : q < l.length
    · have hdr : l.drop q = l[q] :: l.drop (q + 1) := List.drop_eq_getElem_cons hlt
      cases hb : blank l[q]
      · by_cases h1 : (one (l.drop q)).e = 0
        · have hw := walk_tok (p := q) (r := l.drop (q + 1)) hb (by rw [← hdr]; exact h1)
          rw [← hdr] at hw
          have hl := one_len h1
          rw [List.length_drop] at hl
          rw [hw] at he ⊢
          rw [List.drop_drop] at he ⊢
          exact ⟨q, (one (l.drop q)).n, Nat.le_refl _, by omega, hl.1, rfl, fun j h a b => by omega, h1, rfl, rfl, he⟩
        · have h2 := walk_bad (p := q) (r := l.drop (q + 1)) hb (by rw [← hdr]; exact h1)
          rw [← hdr] at h2
          rw [h2] at he
          exact absurd he h1
      · have h2 := walk_blank (p := q) (r := l.drop (q + 1)) hb
        rw [← hdr] at h2
        rw [h2] at he ⊢
        have ih := walk_head k l (q + 1) (by omega) hlt he
        cases hw : (walk (q + 1) (l.drop (q + 1))).1 with
        | nil =>
          rw [hw] at ih
          intro j h a
          by_cases e : j = q
          · subst e; exact hb
          · exact ih j h (by omega)
        | cons t r =>
          rw [hw] at ih
          obtain ⟨p, n, i1, i2, i3, i4, i5, i6⟩ := ih
          refine ⟨p, n, by omega, i2, i3, i4, fun j h a b => ?_, i6⟩
          by_cases e : j = q
          · subst e; exact hb
          · exact i5 j h (by omega) b
    · obtain rfl : q = l.length := by omega
      rw [List.drop_eq_nil_of_le (Nat.le_refl _), walk_nil]
      intro j h a
      omega

theorem toks_leF : ∀ (k : Nat) (l : List UInt8) (q : Nat), l.length < k → (walk q l).1.length ≤ l.length
  | 0, _, _, h => absurd h (Nat.not_lt_zero _)
  | k + 1, [], q, _ => Nat.le_refl _
  | k + 1, b :: r, q, hk => by
    simp only [List.length_cons] at hk
    cases hb : blank b
    · by_cases h1 : (one (b :: r)).e = 0
      · have hl := one_len h1
        rw [walk_tok hb h1]
        have := toks_leF k ((b :: r).drop (one (b :: r)).n) (q + (one (b :: r)).n) (by rw [List.length_drop, List.length_cons]; omega)
        rw [List.length_drop] at this
        simp only [List.length_cons] at this hl ⊢
        omega
      · rw [walk_bad hb h1]; exact Nat.zero_le _
    · rw [walk_blank hb]
      have := toks_leF k r (q + 1) (by omega)
      simp only [List.length_cons]
      omega
theorem toks_le {l : List UInt8} (_h : (walk 0 l).2.2 = 0) : (walk 0 l).1.length ≤ l.length := toks_leF _ l 0 (Nat.lt_succ_self _)

/-- What holds of the place behind k tokens. -/
def CovI (l : List UInt8) (toks : List Tok) (k q : Nat) : Prop :=
  q ≤ l.length ∧ (k ≤ toks.length → (walk q (l.drop q)).1 = toks.drop k ∧ (walk q (l.drop q)).2.2 = 0) ∧ (toks.length < k → q = l.length)
theorem cover_step {l : List UInt8} {toks : List Tok} {k q : Nat} (h : CovI l toks k q) (hk : k < (toks ++ [(⟨0, [], l.length⟩ : Tok)]).length) :
    ∃ (p : Nat) (t : List UInt8), (toks ++ [(⟨0, [], l.length⟩ : Tok)])[k].p = p ∧ (toks ++ [(⟨0, [], l.length⟩ : Tok)])[k].t = t ∧ q ≤ p ∧ p + t.length ≤ l.length ∧ (l.drop p).take t.length = t ∧
      (∀ j, (hj : j < l.length) → q ≤ j → j < p → blank l[j] = true) ∧ CovI l toks (k + 1) (p + t.length) := by
  obtain ⟨hq, h1, _⟩ := h
  have hk' : k ≤ toks.length := by simp at hk; omega
  obtain ⟨h2, h3⟩ := h1 hk'
  have hh := walk_head _ l q (Nat.lt_succ_self _) hq h3
  by_cases hlt : k < toks.length
  · rw [h2, List.drop_eq_getElem_cons hlt] at hh
    obtain ⟨p, n, i1, i2, i3, i4, i5, i6, i7, i8, i9⟩ := hh
    have hl : ((l.drop p).take n).length = n := by rw [List.length_take, List.length_drop]; omega
    refine ⟨p, (l.drop p).take n, ?_, ?_, i1, by omega, by rw [hl], i5, by omega, fun _ => ?_, fun h => by omega⟩
    · rw [List.getElem_append_left hlt, i4]
    · rw [List.getElem_append_left hlt, i4]
    · rw [hl]
      exact ⟨i8, i9⟩
  · obtain rfl : k = toks.length := by omega
    rw [h2, List.drop_eq_nil_of_le (Nat.le_refl _)] at hh
    refine ⟨l.length, [], ?_, ?_, hq, by simp, rfl, fun j hj a _ => hh j hj a, by simp, fun h => by omega, fun _ => rfl⟩
    · simp
    · simp
end Go.Proofs.YthabfgpncebigaaDoor.Lx

/- tabulariumref11.Same; lex.Same. -/
namespace Go.Proofs.YthabfgpncebigaaDoor
open Go.RowKit

/-- A token's kind and text. -/
def kt (t : Lx.Tok) : Int × List UInt8 := (t.k, t.t)
theorem kt_step {a b : List Lx.Tok} {k : Nat} (h : (a.take k).map kt = (b.take k).map kt) (ha : k < a.length) (hb : k < b.length) (e : kt a[k] = kt b[k]) : (a.take (k + 1)).map kt = (b.take (k + 1)).map kt := by
  rw [List.take_succ_eq_append_getElem ha, List.take_succ_eq_append_getElem hb, List.map_append, List.map_append, h]
  simp [e]
theorem kt_ne {a b : List Lx.Tok} {k : Nat} (ha : k < a.length) (hb : k < b.length) (e : kt a[k] ≠ kt b[k]) : decide (a.map kt = b.map kt) = false := by
  refine decide_eq_false fun h => e ?_
  have h2 : (a.map kt)[k]? = (b.map kt)[k]? := by rw [h]
  rw [List.getElem?_map, List.getElem?_map, List.getElem?_eq_getElem ha, List.getElem?_eq_getElem hb] at h2
  exact Option.some.inj h2

set_option maxRecDepth 100000 in
set_option maxHeartbeats 2000000 in
theorem rsame_any (a b : List Lx.Tok) (A B : Option Addr) (n c m d : Nat) (w : World) (ha : Rd w 3 A n c (tval a)) (hb : Rd w 3 B m d (tval b)) :
    Calls Tryd.prog 13 #[.slice A n c, .slice B m d] w fun e w' => e = .returned (.bool (decide (a.map kt = b.map kt))) ∧ Below w.heap.size w w' := by
  have hla := Rd3.len ha
  have hlb := Rd3.len hb
  have hmax := Rd.max ha
  have hmaxb := Rd.max hb
  have HA := Lib.hid hla
  have HB := Lib.hid hlb
  obtain ⟨ans, hans⟩ : ∃ ans, ans = decide (a.map kt = b.map kt) := ⟨_, rfl⟩
  rw [← hans]
  have HS := Lib.hid hans
  clear hans
  by_cases hnm : n = m
  · have hc : ((n : Int) != (m : Int)) = false := by simp; omega
    have HM := Lib.hid hnm
    clear hla hlb
    go_enter Tryd.func13, Tryd.ntmps13
    go_wp2
    go_loopg [5] n (fun g i wr => ∃ k : Nat, g = n - k ∧ k ≤ n ∧ i = .int .i64 k ∧ Hid ((a.take k).map kt = (b.take k).map kt) ∧ ∃ q, wr = w.drewN q)
    case atStart => exact ⟨0, rfl, Nat.zero_le _, rfl, rfl, 0, rfl⟩
    case round =>
      obtain ⟨k, rfl, hk, rfl, HT, q, rfl⟩ := hrel
      by_cases hlt : k < n
      · obtain ⟨ad, rfl⟩ := Rd.addr ha (by omega)
        obtain ⟨bd, rfl⟩ := Rd.addr hb (by omega)
        have hka : k < a.length := by have := HA.out; omega
        have hkb : k < b.length := by have := HB.out; have := HM.out; omega
        obtain ⟨a0, a1, a2⟩ := Rd3.cells ha hka
        obtain ⟨b0, b1, b2⟩ := Rd3.cells hb hkb
        have hkm : k < m := by omega
        have hstep := kt_step HT.out hka hkb
        have hne := kt_ne hka hkb
        unfold kt at hstep hne
        generalize a[k].k = k1 at *
        generalize a[k].t = t1 at *
        generalize b[k].k = k2 at *
        generalize b[k].t = t2 at *
        have hw1 : IntKind.i64.wrap ((k : Int) + 1) = (k : Int) + 1 := IntWalk.i64_in _ (by omega)
        have d1 : (k : Int) < n := by omega
        have HST := Lib.hid hstep
        have HNE := Lib.hid hne
        clear hstep hne a2 b2
        by_cases h1 : k1 = k2
        · by_cases h2 : t1 = t2
          · have HE : Hid (((a.take (k + 1)).map fun t => (t.k, t.t)) = (b.take (k + 1)).map fun t => (t.k, t.t)) := HST.out (by rw [h1, h2])
            subst h1 h2
            have e1 : (k1 != k1) = false := by simp
            have e2 : (t1 == t1) = true := by simp
            clear HST HNE
            go_wp2_with fail
            go_quiet (fail)
            go_wp2_with fail
            go_roundg (n - (k + 1))
            case measure => omega
            case rel => exact ⟨k + 1, rfl, hlt, by simp, HE.out, _, rfl⟩
          · have HE : Hid (ans = false) := by
              show ans = false
              rw [HS.out]
              exact HNE.out (fun h => h2 (Prod.mk.inj h).2)
            subst h1
            have e1 : (k1 != k1) = false := by simp
            have e2 : (t1 == t2) = false := by simpa using h2
            clear HST HNE h2
            go_wp2_with fail
            go_quiet (fail)
            go_wp2_with fail
            go_returns
            exact ⟨by rw [HE.out]; rfl, below_drewN (below_drewN_self _ _ _) _⟩
        · have HE : Hid (ans = false) := by
            show ans = false
            rw [HS.out]
            exact HNE.out (fun h => h1 (Prod.mk.inj h).1)
          have e1 : (k1 != k2) = true := by simpa using h1
          clear HST HNE h1
          go_wp2_with fail
          go_quiet (fail)
          go_wp2_with fail
          go_returns
          exact ⟨by rw [HE.out]; rfl, below_drewN (below_drewN_self _ _ _) _⟩
      · obtain rfl : k = n := by omega
        have HE : Hid (ans = true) := by
          have h1 := HT.out
          rw [List.take_of_length_le (by rw [← HA.out]; exact Nat.le_refl _), List.take_of_length_le (by rw [← HB.out, ← HM.out]; exact Nat.le_refl _)] at h1
          show ans = true
          rw [HS.out, decide_eq_true h1]
        have d1 : ¬(k : Int) < k := by omega
        go_wp2_with fail
        go_returns
        exact ⟨by rw [HE.out]; rfl, below_drewN_self _ _ _⟩
  · have hc : ((n : Int) != (m : Int)) = true := by rw [bne_iff_ne]; omega
    have HE : Hid (ans = false) := by
      show ans = false
      rw [HS.out]
      refine decide_eq_false fun h => hnm ?_
      have := congrArg List.length h
      simpa [← hla, ← hlb] using this
    clear hnm hla hlb
    go_enter Tryd.func13, Tryd.ntmps13
    go_wp2
    go_returns
    exact ⟨by rw [HE.out]; rfl, Below.refl _ _⟩
end Go.Proofs.YthabfgpncebigaaDoor
