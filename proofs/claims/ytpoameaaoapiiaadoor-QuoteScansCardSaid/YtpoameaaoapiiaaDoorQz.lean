/- Quoted texts in plain Lean: what is printed is read again; cut short it is not; what is read is a text. No program in sight. -/
import Derived.Test.YtpoameaaoapiiaaDoorQq
namespace Go.Proofs.YtpoameaaoapiiaaDoor.Qt

/-- The text of these scalars. -/
def T (cs : List Nat) : List UInt8 := cs.flatMap Utf.enc
def Sc (cs : List Nat) : Prop := ∀ c ∈ cs, Utf.scalar c = true
theorem T_cons (c : Nat) (cs : List Nat) : T (c :: cs) = Utf.enc c ++ T cs := rfl
theorem enc_ne {c : Nat} (h : Utf.scalar c = true) : (Utf.enc c).length ≠ 0 := fun e => by
  rw [List.length_eq_zero_iff, Utf.enc_nil, h] at e
  cases e
theorem scan_T : ∀ (cs : List Nat) (p : Nat), Sc cs → (Utf.scan (T cs) p).2 = p + (T cs).length
  | [], p, _ => by rw [show T [] = [] from rfl, Utf.scan_nil]; rfl
  | c :: cs, p, h => by
    have hs := h c (by simp)
    rw [T_cons, Utf.scan_ok (by rw [Utf.next_enc hs]; exact enc_ne hs), Utf.next_enc hs]
    simp only [List.drop_left']
    rw [scan_T cs _ (fun d hd => h d (by simp [hd])), List.length_append]
    omega
theorem valid_T {cs : List Nat} (h : Sc cs) : Utf.valid (T cs) = true := Utf.valid_iff.2 (scan_T cs 0 h)
theorem of_valid {l : List UInt8} (h : Utf.valid l = true) : ∃ cs, Sc cs ∧ l = T cs := by
  refine Utf.valid_ind (motive := fun l _ => ∃ cs, Sc cs ∧ l = T cs) ?_ ?_ _ l 0 (Nat.lt_succ_self _) (Utf.valid_iff.1 h)
  · exact fun _ => ⟨[], fun c hc => by simp at hc, rfl⟩
  · rintro c r p hs _ _ ⟨cs, hcs, rfl⟩
    refine ⟨c :: cs, fun d hd => ?_, rfl⟩
    rcases List.mem_cons.1 hd with rfl | hd
    · exact hs
    · exact hcs d hd
theorem valid_enc (c : Nat) : Utf.valid (Utf.enc c) = true := by
  cases h : Utf.scalar c with
  | false => rw [Utf.enc_nil.2 h]; rfl
  | true =>
    have := valid_T (cs := [c]) (fun d hd => by simp at hd; rw [hd]; exact h)
    rwa [T_cons, show T [] = [] from rfl, List.append_nil] at this
theorem valid_append {a b : List UInt8} (ha : Utf.valid a = true) (hb : Utf.valid b = true) : Utf.valid (a ++ b) = true := by
  obtain ⟨xs, hx, rfl⟩ := of_valid ha
  obtain ⟨ys, hy, rfl⟩ := of_valid hb
  rw [show T xs ++ T ys = T (xs ++ ys) by simp [T]]
  refine valid_T fun c hc => ?_
  rcases List.mem_append.1 hc with h | h
  · exact hx c h
  · exact hy c h

/-- A prefix of a scalar is none. -/
theorem next_trunc {l : List UInt8} {c n k : Nat} (h : Utf.next l = (c, n)) (hk : k < n) : (Utf.next (l.take k)).2 = 0 := by
  refine Decidable.byContradiction fun hm => ?_
  obtain ⟨d, m, hd⟩ : ∃ d m, Utf.next (l.take k) = (d, m) := ⟨_, _, rfl⟩
  rw [hd] at hm
  obtain ⟨h1, h2, h3, h4⟩ := Utf.next_some hd hm
  rw [List.length_take] at h4
  have h5 : l = Utf.enc d ++ l.drop m := by
    rw [← h2, List.take_take, Nat.min_eq_left (by omega), List.take_append_drop]
  have h6 := Utf.next_enc h1 (l.drop m)
  rw [← h5, h, ← h3] at h6
  injection h6 with _ h7
  omega

theorem hexv_hexd : ∀ x : Fin 16, hexv (hexd x.val) = x.val ∧ hexd x.val < 256 := by decide
theorem hexv_dig {x : Nat} (h : x < 16) : hexv (UInt8.ofNat (hexd x)).toNat = x := by
  have := hexv_hexd ⟨x, h⟩
  rw [Utf.toNat_ofNat this.2]; exact this.1
theorem enc_small {c : Nat} (h : c < 128) : Utf.enc c = [UInt8.ofNat c] := by
  unfold Utf.enc
  rw [if_neg (by simp [Utf.scalar]; omega), if_pos h]
theorem enc_big {c : Nat} (hs : Utf.scalar c = true) (h : 128 ≤ c) : ∀ b ∈ Utf.enc c, 128 ≤ b.toNat := by
  have hc := Utf.scalar_iff.1 hs
  unfold Utf.enc
  rw [if_neg (by simp [hs]), if_neg (by omega)]
  split
  · intro b hb
    rcases List.mem_cons.1 hb with rfl | hb
    · rw [Utf.toNat_ofNat (by omega)]; omega
    · simp only [List.mem_singleton] at hb; subst hb
      rw [Utf.toNat_ofNat (by omega)]; omega
  · split
    · intro b hb
      rcases List.mem_cons.1 hb with rfl | hb
      · rw [Utf.toNat_ofNat (by omega)]; omega
      · rcases List.mem_cons.1 hb with rfl | hb
        · rw [Utf.toNat_ofNat (by omega)]; omega
        · simp only [List.mem_singleton] at hb; subst hb
          rw [Utf.toNat_ofNat (by omega)]; omega
    · intro b hb
      rcases List.mem_cons.1 hb with rfl | hb
      · rw [Utf.toNat_ofNat (by omega)]; omega
      · rcases List.mem_cons.1 hb with rfl | hb
        · rw [Utf.toNat_ofNat (by omega)]; omega
        · rcases List.mem_cons.1 hb with rfl | hb
          · rw [Utf.toNat_ofNat (by omega)]; omega
          · simp only [List.mem_singleton] at hb; subst hb
            rw [Utf.toNat_ofNat (by omega)]; omega
theorem shortc_big {c : Nat} (h : 128 ≤ c) : shortc c = 0 := by unfold shortc; repeat (rw [if_neg (by omega)])
theorem pps_big : ∀ (l : List UInt8), (∀ b ∈ l, 128 ≤ b.toNat) → pps l = l
  | [], _ => rfl
  | b :: r, h => by
    have hb := h b (by simp)
    have e : pp b = [b] := by unfold pp; rw [if_neg (by rw [shortc_big hb]; simp), if_neg (by omega)]
    rw [show pps (b :: r) = pp b ++ pps r from rfl, e, pps_big r (fun x hx => h x (by simp [hx]))]
    rfl

/-- What a byte's print looks like. -/
theorem pp_kinds {c : Nat} (h : c < 128) : (∃ d, mean d = c ∧ d < 256 ∧ mean d ≠ 0 ∧ pp (UInt8.ofNat c) = [92, UInt8.ofNat d]) ∨
    (c < 32 ∧ pp (UInt8.ofNat c) = [92, 117, 48, 48, UInt8.ofNat (hexd (c / 16)), UInt8.ofNat (hexd (c % 16))]) ∨ (32 ≤ c ∧ c ≠ 34 ∧ c ≠ 92 ∧ pp (UInt8.ofNat c) = [UInt8.ofNat c]) := by
  have hn : (UInt8.ofNat c).toNat = c := Utf.toNat_ofNat (by omega)
  by_cases h1 : shortc c ≠ 0
  · have e : pp (UInt8.ofNat c) = [92, UInt8.ofNat (shortc c)] := by unfold pp; rw [hn, if_pos h1]
    refine .inl ⟨shortc c, ?_⟩
    rcases shortc_cases h1 with h | h | h | h | h | h | h <;> subst h <;> exact ⟨by decide, by decide, by decide, e⟩
  · by_cases h2 : c < 32
    · exact .inr (.inl ⟨h2, by unfold pp; rw [hn, if_neg h1, if_pos h2]⟩)
    · refine .inr (.inr ⟨by omega, ?_, ?_, by unfold pp; rw [hn, if_neg h1, if_neg h2]⟩)
      · rintro rfl; exact h1 (by decide)
      · rintro rfl; exact h1 (by decide)
theorem quote_head (b : UInt8) (r : List UInt8) (h : b.toNat ≠ 34) : quoteHead (b :: r) = false := decide_eq_false h
theorem n92 : (92 : UInt8).toNat = 92 := rfl
theorem part_esc (r : List UInt8) : part (92 :: r) = esc r := by
  rw [part, if_neg (by rw [n92]; omega), if_neg (by rw [n92]; simp)]
theorem esc_u (r : List UInt8) : esc (117 :: r) = coded r := rfl
theorem unit_zero (k n : Nat) (r : List UInt8) : unitF (k + 1) n (48 :: r) = unitF k (n * 16 + 0) r := rfl
theorem unit_dig (k n x : Nat) (hx : x < 16) (r : List UInt8) : unitF (k + 1) n (UInt8.ofNat (hexd x) :: r) = unitF k (n * 16 + x) r := by
  rw [unitF, hexv_dig hx, if_neg (by omega)]

/-- One scalar's print is read as it. -/
theorem unit_part {c : Nat} (hs : Utf.scalar c = true) (rest : List UInt8) : quoteHead (pps (Utf.enc c) ++ rest) = false ∧ part (pps (Utf.enc c) ++ rest) = ⟨Utf.enc c, (pps (Utf.enc c)).length, 0⟩ := by
  by_cases h : c < 128
  · rw [enc_small h]
    have e : pps [UInt8.ofNat c] = pp (UInt8.ofNat c) := by simp [pps]
    rw [e]
    rcases pp_kinds h with ⟨d, h1, h2, h3, e⟩ | ⟨h1, e⟩ | ⟨h1, h2, h3, e⟩ <;> rw [e]
    · refine ⟨quote_head _ _ (by rw [n92]; omega), ?_⟩
      rw [List.cons_append, part_esc, List.cons_append, esc, Utf.toNat_ofNat h2, if_pos h3, h1]; rfl
    · refine ⟨quote_head _ _ (by rw [n92]; omega), ?_⟩
      simp only [List.cons_append, List.nil_append]
      have hu : unitF 4 0 (48 :: 48 :: UInt8.ofNat (hexd (c / 16)) :: UInt8.ofNat (hexd (c % 16)) :: rest) = (c, 0) := by
        rw [unit_zero, unit_zero, unit_dig _ _ _ (by omega), unit_dig _ _ _ (by omega), unitF]
        congr 1
        omega
      rw [part_esc, esc_u, coded, hu]
      rw [if_neg (by simp), if_neg (by omega), if_pos (by omega), enc_small h]
      rfl
    · have hn : (UInt8.ofNat c).toNat = c := Utf.toNat_ofNat (by omega)
      have hx : Utf.next (UInt8.ofNat c :: rest) = (c, 1) := by simp only [Utf.next, hn, if_pos h]
      refine ⟨quote_head _ _ (by rw [hn]; exact h2), ?_⟩
      rw [List.cons_append, List.nil_append, part, hn, if_neg (by omega), if_pos h3, hx, if_neg (by simp)]
      rfl
  · have hb := enc_big hs (by omega)
    rw [pps_big _ hb]
    have hne := enc_ne hs
    obtain ⟨b, r, e⟩ : ∃ b r, Utf.enc c = b :: r := by
      cases he : Utf.enc c with
      | nil => rw [he] at hne; exact absurd rfl hne
      | cons b r => exact ⟨b, r, rfl⟩
    have hb0 := hb b (by rw [e]; simp)
    have hx := Utf.next_enc hs rest
    refine ⟨by rw [e]; exact quote_head _ _ (by omega), ?_⟩
    have e2 : part (Utf.enc c ++ rest) = if (Utf.next (Utf.enc c ++ rest)).2 = 0 then err 7 else ⟨(Utf.enc c ++ rest).take (Utf.next (Utf.enc c ++ rest)).2, (Utf.next (Utf.enc c ++ rest)).2, 0⟩ := by
      rw [e, List.cons_append, part, if_neg (by omega), if_pos (by omega)]
    rw [e2, hx, if_neg hne]
    simp only [List.take_left']
/-- .. cut short it is none. -/
theorem trunc_part {c k : Nat} (hs : Utf.scalar c = true) (hk : k < (pps (Utf.enc c)).length) : quoteHead ((pps (Utf.enc c)).take k) = false ∧ ((part ((pps (Utf.enc c)).take k)).e = 2 ∨ (part ((pps (Utf.enc c)).take k)).e = 7) := by
  by_cases h : c < 128
  · rw [enc_small h] at hk ⊢
    have e : pps [UInt8.ofNat c] = pp (UInt8.ofNat c) := by simp [pps]
    rw [e] at hk ⊢
    rcases pp_kinds h with ⟨d, h1, h2, h3, e⟩ | ⟨h1, e⟩ | ⟨h1, h2, h3, e⟩ <;> rw [e] at hk ⊢
    · match k, hk with
      | 0, _ => exact ⟨rfl, .inl rfl⟩
      | 1, _ => exact ⟨rfl, .inl rfl⟩
      | k + 2, hk => simp at hk; omega
    · match k, hk with
      | 0, _ => exact ⟨rfl, .inl rfl⟩
      | 1, _ => exact ⟨rfl, .inl rfl⟩
      | 2, _ => exact ⟨rfl, .inl rfl⟩
      | 3, _ => exact ⟨rfl, .inl rfl⟩
      | 4, _ => exact ⟨rfl, .inl rfl⟩
      | 5, _ =>
        refine ⟨rfl, .inl ?_⟩
        have hu : unitF 4 0 [48, 48, UInt8.ofNat (hexd (c / 16))] = (0, 2) := by
          rw [unit_zero, unit_zero, unit_dig _ _ _ (by omega), unitF]
        show (part (92 :: 117 :: [48, 48, UInt8.ofNat (hexd (c / 16))])).e = 2
        rw [part_esc, esc_u, coded, hu]
        rfl
      | k + 6, hk => simp at hk; omega
    · match k, hk with
      | 0, _ => exact ⟨rfl, .inl rfl⟩
      | k + 1, hk => simp at hk
  · have hb := enc_big hs (by omega)
    rw [pps_big _ hb] at hk ⊢
    have hx := Utf.next_enc hs []
    rw [List.append_nil] at hx
    have ht := next_trunc hx hk
    cases k with
    | zero => exact ⟨rfl, .inl rfl⟩
    | succ k =>
      obtain ⟨b, r, e⟩ : ∃ b r, Utf.enc c = b :: r := by
        cases he : Utf.enc c with
        | nil => rw [he] at hk; simp at hk
        | cons b r => exact ⟨b, r, rfl⟩
      have hb0 := hb b (by rw [e]; simp)
      rw [e, List.take_succ_cons] at ht ⊢
      refine ⟨quote_head _ _ (by omega), .inr ?_⟩
      rw [part, if_neg (by omega), if_pos (by omega), if_pos ht]
      rfl

/-- (L1) A print is read. -/
theorem go_print (more : List UInt8) : ∀ (cs : List Nat) (s : List UInt8) (p : Nat), Sc cs → go (pps (T cs) ++ 34 :: more) s p = ⟨s ++ T cs, p + (pps (T cs)).length + 1, 0⟩
  | [], s, p, _ => by rw [show T [] = [] from rfl, show pps [] = [] from rfl, List.nil_append, go_quote _ _ rfl]; simp
  | c :: cs, s, p, h => by
    have hs := h c (by simp)
    rw [T_cons, pps_append, List.append_assoc]
    obtain ⟨h1, h2⟩ := unit_part hs (pps (T cs) ++ 34 :: more)
    rw [go_part s p h1 (by rw [h2]), h2]
    simp only [List.drop_left']
    rw [go_print more cs _ _ (fun d hd => h d (by simp [hd]))]
    simp only [List.append_assoc, List.length_append, Pt.mk.injEq, true_and, and_true]
    omega
theorem scan_print {l : List UInt8} (more : List UInt8) (h : Utf.valid l = true) : scan (print l ++ more) = ⟨l, (print l).length, 0⟩ := by
  obtain ⟨cs, hcs, rfl⟩ := of_valid h
  unfold print
  rw [List.cons_append, scan_cons, if_neg (by decide), List.append_assoc, List.singleton_append, go_print more cs _ _ hcs]
  simp only [List.nil_append, List.length_cons, List.length_append, List.length_nil, Pt.mk.injEq, true_and, and_true]
  omega
/-- (L2) Cut short, it lacks something. -/
theorem go_cut : ∀ (cs : List Nat) (s : List UInt8) (p k : Nat), Sc cs → k < (pps (T cs) ++ [34]).length → (go ((pps (T cs) ++ [34]).take k) s p).e = 2 ∨ (go ((pps (T cs) ++ [34]).take k) s p).e = 7
  | [], s, p, k, _, hk => by
    have : k = 0 := by simpa [show T [] = [] from rfl, show pps [] = [] from rfl] using hk
    subst this
    exact .inl rfl
  | c :: cs, s, p, k, h, hk => by
    have hs := h c (by simp)
    rw [T_cons, pps_append, List.append_assoc] at hk ⊢
    by_cases hlt : k < (pps (Utf.enc c)).length
    · rw [List.take_append_of_le_length (by omega)]
      obtain ⟨h1, h2⟩ := trunc_part hs hlt
      rw [go_err s p h1 (by omega)]
      exact h2
    · rw [List.take_append, List.take_of_length_le (by omega)]
      obtain ⟨h1, h2⟩ := unit_part hs ((pps (T cs) ++ [34]).take (k - (pps (Utf.enc c)).length))
      rw [go_part s p h1 (by rw [h2]), h2]
      simp only [List.drop_left']
      refine go_cut cs _ _ _ (fun d hd => h d (by simp [hd])) ?_
      rw [List.length_append] at hk
      omega
theorem scan_cut {l : List UInt8} {k : Nat} (h : Utf.valid l = true) (hk : k < (print l).length) : (scan ((print l).take k)).e = 2 ∨ (scan ((print l).take k)).e = 7 := by
  obtain ⟨cs, hcs, rfl⟩ := of_valid h
  unfold print at hk ⊢
  cases k with
  | zero => exact .inl rfl
  | succ k =>
    rw [List.take_succ_cons, scan_cons, if_neg (by decide)]
    exact go_cut cs _ _ k hcs (by simpa using hk)

/-- (L3) What is read is a text. -/
theorem part_valid {l : List UInt8} (he : (part l).e = 0) : Utf.valid (part l).s = true := by
  unfold part at he ⊢
  cases l with
  | nil => rfl
  | cons b r =>
    simp only at he ⊢
    split
    · rfl
    · split
      · split
        · rfl
        · rename_i hn
          obtain ⟨c, n, hcn⟩ : ∃ c n, Utf.next (b :: r) = (c, n) := ⟨_, _, rfl⟩
          rw [hcn] at hn ⊢
          obtain ⟨_, h2, _, _⟩ := Utf.next_some hcn hn
          simp only at h2 ⊢
          rw [h2]; exact valid_enc c
      · unfold esc
        split
        · rfl
        · rename_i c t
          split
          · have hm : mean c.toNat < 128 := by unfold mean; repeat (split; · omega)
                                               omega
            rw [← enc_small hm]; exact valid_enc _
          · split
            · unfold coded
              split
              · rfl
              · split
                · rfl
                · split
                  · dsimp only; exact valid_enc _
                  · unfold low
                    split
                    · rfl
                    · split
                      · rfl
                      · split
                        · rfl
                        · split
                          · rfl
                          · split
                            · rfl
                            · split
                              · rfl
                              · dsimp only; exact valid_enc _
            · rfl
theorem scanF_valid : ∀ (k : Nat) (l s : List UInt8) (p : Nat), Utf.valid s = true → Utf.valid (scanF k l s p).s = true ∧ ((scanF k l s p).e ≠ 0 → (scanF k l s p).s = []) ∧ ((scanF k l s p).e = 0 → (scanF k l s p).n ≤ p + l.length)
  | 0, l, s, p, h => ⟨rfl, fun _ => rfl, fun h => by simp [scanF, err] at h⟩
  | k + 1, l, s, p, h => by
    unfold scanF
    split
    · rename_i hq
      refine ⟨h, fun hn => absurd rfl hn, fun _ => ?_⟩
      cases l with
      | nil => simp [quoteHead] at hq
      | cons b r => simp
    · split
      · rename_i he
        exact ⟨rfl, fun _ => rfl, fun h => absurd h he⟩
      · rename_i he
        have he' : (part l).e = 0 := by simpa using he
        have h1 := part_ok he'
        obtain ⟨a, b, c⟩ := scanF_valid k (l.drop (part l).n) (s ++ (part l).s) (p + (part l).n) (valid_append h (part_valid he'))
        refine ⟨a, b, fun hz => ?_⟩
        have := c hz
        rw [List.length_drop] at this
        omega
theorem scan_valid (l : List UInt8) : Utf.valid (scan l).s = true ∧ ((scan l).e ≠ 0 → (scan l).s = []) ∧ ((scan l).e = 0 → (scan l).n ≤ l.length) := by
  unfold scan
  cases l with
  | nil => exact ⟨rfl, fun _ => rfl, fun h => by simp [err] at h⟩
  | cons c r =>
    simp only
    split
    · exact ⟨rfl, fun _ => rfl, fun h => by simp [err] at h⟩
    · obtain ⟨a, b, c⟩ := scanF_valid (r.length + 1) r [] 1 rfl
      refine ⟨a, b, fun hz => ?_⟩
      have := c hz
      simp; omega
theorem print_inj {a b : List UInt8} (ha : Utf.valid a = true) (hb : Utf.valid b = true) (h : print a = print b) : a = b := by
  have h1 := scan_print [] ha
  have h2 := scan_print [] hb
  rw [h] at h1
  rw [h1] at h2
  injection h2
theorem print_len (l : List UInt8) : l.length + 2 ≤ (print l).length ∧ (print l).length ≤ 6 * l.length + 2 := by
  have := pps_len l
  unfold print
  simp only [List.length_cons, List.length_append, List.length_nil]
  omega
theorem scanF_len : ∀ (k : Nat) (l s : List UInt8) (p : Nat), (scanF k l s p).s.length ≤ s.length + 4 * l.length
  | 0, l, s, p => by simp [scanF, err]
  | k + 1, l, s, p => by
    unfold scanF
    split
    · simp
    · split
      · simp [err]
      · rename_i he
        have he' : (part l).e = 0 := by simpa using he
        have h1 := part_ok he'
        have h2 := part_len he'
        have h3 := scanF_len k (l.drop (part l).n) (s ++ (part l).s) (p + (part l).n)
        rw [List.length_append, List.length_drop] at h3
        omega
theorem scan_len (l : List UInt8) : (scan l).s.length ≤ 4 * l.length := by
  unfold scan
  cases l with
  | nil => simp [err]
  | cons c r =>
    simp only
    split
    · simp [err]
    · have := scanF_len (r.length + 1) r [] 1
      simp at this ⊢; omega
end Go.Proofs.YtpoameaaoapiiaaDoor.Qt
