/- Tokens in plain Lean: a token hangs on its own bytes alone, if a blank follows. No program in sight. Tokens' texts joined are those tokens again. No program in sight. -/
import Derived.Test.YthabfgpncebigaaDoorBO

/- Tokens in plain Lean: a token hangs on its own bytes alone, if a blank follows. No program in sight. -/
namespace Go.Proofs.YthabfgpncebigaaDoor.Lx

theorem tw_app (p : UInt8 → Bool) (c : UInt8) (hc : p c = false) : ∀ (t v : List UInt8), (∀ b ∈ t, p b = true) → (t ++ c :: v).takeWhile p = t
  | [], v, _ => by rw [List.nil_append, List.takeWhile_cons, if_neg (by rw [hc]; simp)]
  | b :: t, v, h => by
    rw [List.cons_append, List.takeWhile_cons, if_pos (h b (by simp)), tw_app p c hc t v (fun x hx => h x (by simp [hx]))]
theorem tw_take (p : UInt8 → Bool) (l : List UInt8) : l.take (l.takeWhile p).length = l.takeWhile p := (List.prefix_iff_eq_take.1 (List.takeWhile_prefix p)).symm
theorem tw_all (p : UInt8 → Bool) (l : List UInt8) : ∀ b ∈ l.takeWhile p, p b = true := fun b hb => by
  induction l with
  | nil => simp at hb
  | cons a l ih =>
    rw [List.takeWhile_cons] at hb
    split at hb
    · rename_i h
      rcases List.mem_cons.1 hb with rfl | hb
      · exact h
      · exact ih hb
    · simp at hb

/-! numbers -/
theorem auto_val : ∀ (l : List UInt8) (st en i : Nat), Nm.auto st en i l = en ∨ i < Nm.auto st en i l
  | [], st, en, i => .inl rfl
  | b :: r, st, en, i => by
    rw [Nm.auto]
    split
    · exact .inl rfl
    · rcases auto_val r (Nm.nxt st (Nm.kind b.toNat)) (if Nm.good (Nm.nxt st (Nm.kind b.toNat)) = true then i + 1 else en) (i + 1) with h | h
      · rw [h]
        split
        · exact .inr (Nat.lt_succ_self i)
        · exact .inl rfl
      · exact .inr (by omega)
theorem auto_blank (st en i : Nat) (v : List UInt8) : Nm.auto st en i (32 :: v) = en := by
  rw [Nm.auto, if_pos]
  rfl
theorem auto_local (v : List UInt8) : ∀ (l : List UInt8) (st en i : Nat), i < Nm.auto st en i l → en ≤ i → Nm.auto st en i (l.take (Nm.auto st en i l - i) ++ 32 :: v) = Nm.auto st en i l
  | [], st, en, i, h, he => by
    have : Nm.auto st en i [] = en := rfl
    omega
  | b :: r, st, en, i, h, he => by
    have e0 : Nm.auto st en i (b :: r) = if Nm.nxt st (Nm.kind b.toNat) = 0 then en else Nm.auto (Nm.nxt st (Nm.kind b.toNat)) (if Nm.good (Nm.nxt st (Nm.kind b.toNat)) = true then i + 1 else en) (i + 1) r := by rw [Nm.auto]
    by_cases hz : Nm.nxt st (Nm.kind b.toNat) = 0
    · rw [e0, if_pos hz] at h; omega
    · rw [if_neg hz] at e0
      obtain ⟨st', hst⟩ : ∃ st', st' = Nm.nxt st (Nm.kind b.toNat) := ⟨_, rfl⟩
      obtain ⟨en', hen⟩ : ∃ en', en' = if Nm.good (Nm.nxt st (Nm.kind b.toNat)) = true then i + 1 else en := ⟨_, rfl⟩
      rw [← hen, ← hst] at e0
      have hen2 : en' ≤ i + 1 := by rw [hen]; split <;> omega
      rw [e0] at h ⊢
      have step : ∀ x : List UInt8, Nm.auto st en i (b :: x) = Nm.auto st' en' (i + 1) x := fun x => by
        rw [Nm.auto, if_neg hz, ← hen, ← hst]
      have htk : (b :: r).take (Nm.auto st' en' (i + 1) r - i) = b :: r.take (Nm.auto st' en' (i + 1) r - (i + 1)) := by
        rw [show Nm.auto st' en' (i + 1) r - i = (Nm.auto st' en' (i + 1) r - (i + 1)) + 1 by omega, List.take_succ_cons]
      rw [htk, List.cons_append, step]
      by_cases h2 : i + 1 < Nm.auto st' en' (i + 1) r
      · exact auto_local v r st' en' (i + 1) h2 hen2
      · have h3 : Nm.auto st' en' (i + 1) r = i + 1 := by omega
        rw [h3, Nat.sub_self, List.take_zero, List.nil_append, auto_blank]
        rcases auto_val r st' en' (i + 1) with h4 | h4
        · omega
        · omega
theorem scan_local {u : List UInt8} (v : List UInt8) (h : 0 < Nm.scan u) : Nm.scan (u.take (Nm.scan u) ++ 32 :: v) = Nm.scan u := by
  rw [← Nm.auto_scan u] at h ⊢
  rw [← Nm.auto_scan]
  exact auto_local v u 0 0 0 h (Nat.le_refl _)

/-! quoted texts -/
theorem next_local {l : List UInt8} (h : (Utf.next l).2 ≠ 0) (v : List UInt8) : Utf.next (l.take (Utf.next l).2 ++ v) = Utf.next l := by
  obtain ⟨c, n, hcn⟩ : ∃ c n, Utf.next l = (c, n) := ⟨_, _, rfl⟩
  rw [hcn] at h ⊢
  obtain ⟨h1, h2, h3, h4⟩ := Utf.next_some hcn h
  show Utf.next (l.take n ++ v) = (c, n)
  rw [h2, Utf.next_enc h1, ← h3]
theorem unitF_local : ∀ (k n : Nat) (l v : List UInt8), (Qt.unitF k n l).2 = 0 → Qt.unitF k n (l.take k ++ v) = Qt.unitF k n l
  | 0, n, l, v, _ => rfl
  | k + 1, n, [], v, h => by cases h
  | k + 1, n, b :: r, v, h => by
    rw [List.take_succ_cons, List.cons_append]
    unfold Qt.unitF at h ⊢
    split
    · rename_i h1; exact absurd h (by rw [if_pos h1]; decide)
    · rename_i h1
      rw [if_neg h1] at h
      exact unitF_local k _ r v h
theorem low_local {n : Nat} {l : List UInt8} (v : List UInt8) (h : (Qt.low n l).e = 0) : Qt.low n (l.take 6 ++ v) = Qt.low n l := by
  cases l with
  | nil => cases h
  | cons x r =>
    cases r with
    | nil =>
      unfold Qt.low at h
      split at h <;> cases h
    | cons y t =>
      rw [show (x :: y :: t).take 6 = x :: y :: t.take 4 from rfl, List.cons_append, List.cons_append]
      unfold Qt.low at h ⊢
      simp only at h ⊢
      split
      · rfl
      · rename_i h1
        rw [if_neg h1] at h
        split
        · rfl
        · rename_i h2
          rw [if_neg h2] at h
          by_cases h3 : (Qt.unitF 4 0 t).2 = 0
          · rw [unitF_local 4 0 t v h3]
          · rw [if_pos h3] at h
            exact absurd h h3
theorem coded_local {t : List UInt8} (v : List UInt8) (h : (Qt.coded t).e = 0) : Qt.coded (t.take ((Qt.coded t).n - 2) ++ v) = Qt.coded t := by
  have h3 : (Qt.unitF 4 0 t).2 = 0 := Decidable.byContradiction fun hn => by
    unfold Qt.coded at h
    rw [if_pos hn] at h
    exact hn h
  have hl := Qt.unitF_len 4 0 t h3
  have hn := (Qt.coded_ok h).1
  -- more than four bytes are taken
  have hu : ∀ m, 4 ≤ m → Qt.unitF 4 0 (t.take m ++ v) = Qt.unitF 4 0 t := fun m hm => by
    have e : t.take m ++ v = t.take 4 ++ ((t.drop 4).take (m - 4) ++ v) := by
      rw [← List.append_assoc]
      congr 1
      have := List.take_add (l := t) (i := 4) (j := m - 4)
      rw [show 4 + (m - 4) = m by omega] at this
      exact this
    rw [e, unitF_local 4 0 t _ h3]
  have hq := hu ((Qt.coded t).n - 2) (by omega)
  obtain ⟨m, hm⟩ : ∃ m, m = (Qt.coded t).n - 2 := ⟨_, rfl⟩
  rw [← hm] at hq ⊢
  unfold Qt.coded at h ⊢
  rw [hq]
  rw [if_neg (by rw [h3]; simp)] at h ⊢
  rw [if_neg (show ¬(Qt.unitF 4 0 t).2 ≠ 0 by rw [h3]; simp)]
  split
  · rfl
  · rename_i h4
    rw [if_neg h4] at h
    split
    · rfl
    · rename_i h5
      rw [if_neg h5] at h
      have hn12 : (Qt.low (Qt.unitF 4 0 t).1 (t.drop 4)).n = 12 := (Qt.low_ok h).1
      have hmm : m = 10 := by
        rw [hm]
        unfold Qt.coded
        rw [if_neg (by rw [h3]; simp), if_neg h4, if_neg h5, hn12]
      rw [hmm]
      have e : (t.take 10 ++ v).drop 4 = (t.drop 4).take 6 ++ v := by
        rw [List.drop_append_of_le_length (by rw [List.length_take]; omega), List.drop_take]
      rw [e, low_local v h]
theorem esc_local {l : List UInt8} (v : List UInt8) (h : (Qt.esc l).e = 0) : Qt.esc (l.take ((Qt.esc l).n - 1) ++ v) = Qt.esc l := by
  cases l with
  | nil => cases h
  | cons c t =>
    have hn := (Qt.esc_ok h).1
    rw [show (Qt.esc (c :: t)).n - 1 = ((Qt.esc (c :: t)).n - 2) + 1 by omega, List.take_succ_cons, List.cons_append]
    obtain ⟨m, hm⟩ : ∃ m, m = (Qt.esc (c :: t)).n - 2 := ⟨_, rfl⟩
    rw [← hm]
    have he : ∀ x, Qt.esc (c :: x) = if Qt.mean c.toNat ≠ 0 then ⟨[UInt8.ofNat (Qt.mean c.toNat)], 2, 0⟩ else if c.toNat = 117 then Qt.coded x else Qt.err 3 := fun x => rfl
    rw [he] at h hm ⊢
    rw [he]
    split
    · rfl
    · rename_i h1
      rw [if_neg h1] at h hm
      split
      · rename_i h2
        rw [if_pos h2] at h hm
        rw [hm]
        exact coded_local v h
      · rfl
theorem part_local {l : List UInt8} (v : List UInt8) (h : (Qt.part l).e = 0) : Qt.part (l.take (Qt.part l).n ++ v) = Qt.part l := by
  cases l with
  | nil => cases h
  | cons b r =>
    have hn := (Qt.part_ok h).1
    by_cases h1 : b.toNat < 32
    · rw [show Qt.part (b :: r) = if b.toNat < 32 then Qt.err 3 else _ from rfl, if_pos h1] at h
      cases h
    · by_cases h2 : b.toNat = 92
      · have hp : ∀ x, Qt.part (b :: x) = Qt.esc x := fun x => by
          show (if b.toNat < 32 then Qt.err 3 else if b.toNat ≠ 92 then _ else Qt.esc x) = _
          rw [if_neg h1, if_neg (fun hh => hh h2)]
        rw [hp] at h hn ⊢
        obtain ⟨m, hm⟩ : ∃ m, (Qt.esc r).n = m + 1 := ⟨(Qt.esc r).n - 1, by omega⟩
        rw [hm, List.take_succ_cons, List.cons_append, hp]
        have := esc_local v h
        rw [hm] at this
        exact this
      · have hp : ∀ x, Qt.part (b :: x) = if (Utf.next (b :: x)).2 = 0 then Qt.err 7 else ⟨(b :: x).take (Utf.next (b :: x)).2, (Utf.next (b :: x)).2, 0⟩ := fun x => by
          show (if b.toNat < 32 then Qt.err 3 else if b.toNat ≠ 92 then _ else Qt.esc x) = _
          rw [if_neg h1, if_pos h2]
        rw [hp] at h hn ⊢
        by_cases h3 : (Utf.next (b :: r)).2 = 0
        · rw [if_pos h3] at h; cases h
        · rw [if_neg h3] at hn ⊢
          simp only at hn ⊢
          have hnl := next_local h3 v
          have hle := Utf.next_le (l := b :: r)
          obtain ⟨k, hk⟩ : ∃ k, (Utf.next (b :: r)).2 = k + 1 := ⟨(Utf.next (b :: r)).2 - 1, by omega⟩
          rw [hk, List.take_succ_cons, List.cons_append] at hnl ⊢
          rw [hp, hnl, if_neg h3, hk]
          rw [List.take_succ_cons]
          congr 1
          congr 1
          rw [List.take_append_of_le_length (by rw [List.length_take]; simp only [List.length_cons] at hle; omega), List.take_take, Nat.min_self]
theorem take_split (l : List UInt8) (a b : Nat) : l.take (a + b) = l.take a ++ (l.drop a).take b := List.take_add
theorem qscanF_local : ∀ (k : Nat) (l s : List UInt8) (p : Nat) (v : List UInt8), (Qt.scanF k l s p).e = 0 →
    ∃ c, (Qt.scanF k l s p).n = p + c ∧ ∀ k', (l.take c ++ v).length < k' → Qt.scanF k' (l.take c ++ v) s p = Qt.scanF k l s p
  | 0, _, _, _, _, h => by cases h
  | k + 1, [], s, p, v, h => by
    rw [show Qt.scanF (k + 1) [] s p = Qt.err 2 from rfl] at h
    cases h
  | k + 1, b :: r, s, p, v, h => by
    have e0 : ∀ (m : Nat) (x : List UInt8), Qt.scanF (m + 1) x s p = if Qt.quoteHead x = true then ⟨s, p + 1, 0⟩ else if (Qt.part x).e ≠ 0 then Qt.err (Qt.part x).e else Qt.scanF m (x.drop (Qt.part x).n) (s ++ (Qt.part x).s) (p + (Qt.part x).n) := fun m x => rfl
    have hqh : ∀ x y : List UInt8, Qt.quoteHead (b :: x) = Qt.quoteHead (b :: y) := fun x y => rfl
    rw [e0] at h ⊢
    by_cases h1 : Qt.quoteHead (b :: r) = true
    · refine ⟨1, by rw [if_pos h1], fun k' hk => ?_⟩
      obtain ⟨m, rfl⟩ : ∃ m, k' = m + 1 := ⟨k' - 1, by omega⟩
      rw [if_pos h1, e0, show (b :: r).take 1 ++ v = b :: v from rfl, if_pos (by rw [hqh v r]; exact h1)]
    · rw [if_neg h1] at h ⊢
      by_cases h2 : (Qt.part (b :: r)).e ≠ 0
      · rw [if_pos h2] at h
        exact absurd h h2
      · rw [if_neg h2] at h ⊢
        have h3 : (Qt.part (b :: r)).e = 0 := Decidable.byContradiction h2
        obtain ⟨hn1, hn2⟩ := Qt.part_ok h3
        obtain ⟨c, hc, ih⟩ := qscanF_local k _ _ _ v h
        refine ⟨(Qt.part (b :: r)).n + c, by rw [hc]; omega, fun k' hk => ?_⟩
        obtain ⟨m, rfl⟩ : ∃ m, k' = m + 1 := ⟨k' - 1, by omega⟩
        have hsp : (b :: r).take ((Qt.part (b :: r)).n + c) ++ v = (b :: r).take (Qt.part (b :: r)).n ++ (((b :: r).drop (Qt.part (b :: r)).n).take c ++ v) := by rw [take_split, List.append_assoc]
        have hpl := part_local (((b :: r).drop (Qt.part (b :: r)).n).take c ++ v) h3
        rw [← hsp] at hpl
        have hdr : ((b :: r).take ((Qt.part (b :: r)).n + c) ++ v).drop (Qt.part (b :: r)).n = ((b :: r).drop (Qt.part (b :: r)).n).take c ++ v := by
          rw [hsp, List.drop_append_of_le_length (by rw [List.length_take]; omega), List.drop_eq_nil_of_le (by rw [List.length_take]; omega), List.nil_append]
        have hq2 : ¬Qt.quoteHead ((b :: r).take ((Qt.part (b :: r)).n + c) ++ v) = true := by
          rw [show (Qt.part (b :: r)).n + c = ((Qt.part (b :: r)).n - 1 + c) + 1 by omega, List.take_succ_cons, List.cons_append, hqh _ r]
          exact h1
        rw [e0, if_neg hq2, hpl, if_neg h2, hdr]
        refine ih m ?_
        have hX : (Qt.part (b :: r)).n ≤ ((b :: r).take ((Qt.part (b :: r)).n + c) ++ v).length := by
          rw [hsp, List.length_append, List.length_take]
          omega
        rw [← hdr, List.length_drop]
        omega
theorem qscan_local {u : List UInt8} (v : List UInt8) (h : (Qt.scan u).e = 0) : Qt.scan (u.take (Qt.scan u).n ++ v) = Qt.scan u := by
  cases u with
  | nil => cases h
  | cons b r =>
    have e0 : ∀ x, Qt.scan (b :: x) = if b.toNat ≠ 34 then Qt.err 3 else Qt.scanF (x.length + 1) x [] 1 := fun x => rfl
    rw [e0] at h ⊢
    by_cases h1 : b.toNat ≠ 34
    · rw [if_pos h1] at h; cases h
    · rw [if_neg h1] at h ⊢
      obtain ⟨c, hc, ih⟩ := qscanF_local _ _ _ _ v h
      rw [hc, show 1 + c = c + 1 by omega, List.take_succ_cons, List.cons_append, e0, if_neg h1]
      exact ih _ (Nat.lt_succ_self _)

/-! comments -/
theorem line_all (u : List UInt8) : ∀ b ∈ line u, (b != 10) = true := tw_all _ u
theorem trim_prefix (t : List UInt8) : trim t <+: t := by
  unfold trim Lib.trimRightS
  have := List.dropWhile_suffix (l := t.reverse) (([32, 9, 13] : List UInt8).contains ·)
  have h2 := List.reverse_prefix.2 this
  rwa [List.reverse_reverse] at h2
theorem dw_idem (p : UInt8 → Bool) : ∀ l : List UInt8, (l.dropWhile p).dropWhile p = l.dropWhile p
  | [] => rfl
  | b :: l => by
    by_cases h : p b = true
    · rw [List.dropWhile_cons, if_pos h]; exact dw_idem p l
    · rw [List.dropWhile_cons, if_neg h, List.dropWhile_cons, if_neg h]
theorem trim_trim (t : List UInt8) : trim (trim t) = trim t := by
  unfold trim Lib.trimRightS
  rw [List.reverse_reverse, dw_idem]
theorem trim_blank (t : List UInt8) {b : UInt8} (h : blank b = true) : trim (t ++ [b]) = trim t := by
  unfold trim Lib.trimRightS
  rw [List.reverse_append, List.reverse_singleton, List.singleton_append, List.dropWhile_cons, if_pos (show ([32, 9, 13] : List UInt8).contains b = true from h)]
theorem trim_cons (a : UInt8) {x : List UInt8} (h : trim x ≠ []) : trim (a :: x) = a :: trim x := by
  unfold trim Lib.trimRightS at h ⊢
  rw [List.reverse_cons]
  have key : ∀ y : List UInt8, y.dropWhile (([32, 9, 13] : List UInt8).contains ·) ≠ [] → (y ++ [a]).dropWhile (([32, 9, 13] : List UInt8).contains ·) = y.dropWhile (([32, 9, 13] : List UInt8).contains ·) ++ [a] := by
    intro y
    induction y with
    | nil => intro h; exact absurd rfl h
    | cons b y ih =>
      intro h
      rw [List.cons_append, List.dropWhile_cons, List.dropWhile_cons]
      rw [List.dropWhile_cons] at h
      split
      · rename_i h1; rw [if_pos h1] at h; exact ih h
      · rfl
  rw [key _ (fun hh => h (by rw [hh]; rfl)), List.reverse_append]
  rfl
theorem line_tail {t v : List UInt8} (ht : ∀ b ∈ t, (b != 10) = true) (hv : v = [] ∨ ∃ v', v = 10 :: v') : line (t ++ 32 :: v) = t ++ [32] := by
  unfold line
  rcases hv with rfl | ⟨v', rfl⟩
  · have key : ∀ x : List UInt8, (∀ b ∈ x, (b != 10) = true) → x.takeWhile (· != 10) = x := by
      intro x
      induction x with
      | nil => intro _; rfl
      | cons b x ih =>
        intro h
        rw [List.takeWhile_cons, if_pos (h b (by simp)), ih (fun y hy => h y (by simp [hy]))]
    exact key _ (fun b hb => by
      rcases List.mem_append.1 hb with h | h
      · exact ht b h
      · rw [List.mem_singleton.1 h]; rfl)
  · rw [show t ++ 32 :: 10 :: v' = (t ++ [32]) ++ 10 :: v' by simp]
    exact tw_app _ 10 rfl _ _ (fun b hb => by
      rcases List.mem_append.1 hb with h | h
      · exact ht b h
      · rw [List.mem_singleton.1 h]; rfl)
theorem pre_take {a l m : List UInt8} (h : l.take a.length = m.take a.length) : a.isPrefixOf l = a.isPrefixOf m := by
  rw [Bool.eq_iff_iff, List.isPrefixOf_iff_prefix, List.isPrefixOf_iff_prefix, List.prefix_iff_eq_take, List.prefix_iff_eq_take, h]
theorem index_local {S sub x : List UInt8} {i : Nat} (h : Lib.index S sub = i) (hs : 1 ≤ sub.length) : Lib.index (S.take (i + sub.length) ++ x) sub = i := by
  rcases Lib.index_spec S sub with ⟨h1, _⟩ | ⟨j, h1, h2, h3, h4⟩
  · rw [h1] at h; omega
  · obtain rfl : i = j := by rw [h1] at h; omega
    have hlen : i + sub.length ≤ S.length := by
      have := (List.isPrefixOf_iff_prefix.1 h3).length_le
      rw [List.length_drop] at this
      omega
    have hl2 : (S.take (i + sub.length)).length = i + sub.length := by rw [List.length_take]; omega
    have hpre : ∀ m, m ≤ i → Lib.occAt (S.take (i + sub.length) ++ x) sub m = Lib.occAt S sub m := fun m hm => by
      unfold Lib.occAt
      refine pre_take ?_
      rw [List.drop_append_of_le_length (by omega), List.take_append_of_le_length (by rw [List.length_drop]; omega), List.drop_take, List.take_take, Nat.min_eq_left (by omega)]
    exact Lib.index_first (by rw [List.length_append]; omega) (by rw [hpre i (Nat.le_refl _)]; exact h3) (fun m hm => by rw [hpre m (by omega)]; exact h4 m hm)

theorem one_hd (b : UInt8) (r : List UInt8) : one (b :: r) = if b = 10 then ⟨5, 1, 0, 0⟩
    else if letter b = true then ⟨1, nameL (b :: r), 0, 0⟩
    else if Nm.dig b = true then ⟨2, Nm.scan (b :: r), 0, (Nm.numV ((b :: r).take (Nm.scan (b :: r)))).2⟩
    else if b = 34 then ⟨3, (Qt.scan (b :: r)).n, 0, (Qt.scan (b :: r)).e⟩
    else if b = 35 ∨ [47, 47].isPrefixOf (b :: r) = true then rem 6 (trim (line (b :: r)))
    else if [47, 42].isPrefixOf (b :: r) = true then (if shut (b :: r) < 0 then ⟨0, 0, 0, 2⟩ else rem 7 ((line (b :: r)).take ((shut (b :: r)).toNat + 4)))
    else if sign (b :: r) = 0 then ⟨0, 0, 0, 3⟩ else ⟨4, sign (b :: r), 0, 0⟩ := rfl
theorem dig_blank : Nm.dig 32 = false := by decide
theorem any_same {L : List (List UInt8)} {a b : List UInt8} (h : ∀ x ∈ L, x.isPrefixOf a = x.isPrefixOf b) : L.any (·.isPrefixOf a) = L.any (·.isPrefixOf b) := by
  induction L with
  | nil => rfl
  | cons x L ih =>
    rw [List.any_cons, List.any_cons, h x (by simp), ih (fun y hy => h y (by simp [hy]))]
theorem line_pre (u : List UInt8) : line u <+: u := List.takeWhile_prefix _
/-- A token hangs on its own bytes alone. -/
theorem one_local {b : UInt8} {r v : List UInt8} (h : (one (b :: r)).e = 0) (h5 : (one (b :: r)).k ≠ 5) (h6 : (one (b :: r)).k = 6 → v = [] ∨ ∃ v', v = 10 :: v') :
    one ((b :: r).take (one (b :: r)).n ++ 32 :: v) = one (b :: r) := by
  obtain ⟨hn1, hn2⟩ := one_len h
  obtain ⟨n, hn⟩ : ∃ n, (one (b :: r)).n = n + 1 := ⟨(one (b :: r)).n - 1, by omega⟩
  have hW : (b :: r).take (one (b :: r)).n ++ 32 :: v = b :: (r.take n ++ 32 :: v) := by rw [hn, List.take_succ_cons, List.cons_append]
  rw [hn] at hn2
  have hO := one_hd b r
  have hO2 := one_hd b (r.take n ++ 32 :: v)
  rw [← hW] at hO2
  by_cases c1 : b = 10
  · rw [hO, if_pos c1] at h5; exact absurd rfl h5
  rw [if_neg c1] at hO hO2
  by_cases c2 : letter b = true
  · rw [if_pos c2] at hO hO2
    have hnn : (one (b :: r)).n = nameL (b :: r) := by rw [hO]
    rw [hnn] at hO2 ⊢
    rw [hO2, hO]
    congr 1
    unfold nameL
    rw [tw_take, tw_app lord 32 (by decide) _ _ (tw_all lord _)]
  rw [if_neg c2] at hO hO2
  by_cases c3 : Nm.dig b = true
  · rw [if_pos c3] at hO hO2
    have hnn : (one (b :: r)).n = Nm.scan (b :: r) := by rw [hO]
    have hsl := scan_local (u := b :: r) v (by rw [← hnn]; omega)
    have hle := Nm.scan_le (b :: r)
    have htk : ((b :: r).take (Nm.scan (b :: r)) ++ 32 :: v).take (Nm.scan (b :: r)) = (b :: r).take (Nm.scan (b :: r)) := by
      rw [List.take_append_of_le_length (by rw [List.length_take]; omega), List.take_take, Nat.min_self]
    rw [hnn] at hO2 ⊢
    rw [hO2, hO, hsl, htk]
  rw [if_neg c3] at hO hO2
  by_cases c4 : b = 34
  · rw [if_pos c4] at hO hO2
    have hnn : (one (b :: r)).n = (Qt.scan (b :: r)).n := by rw [hO]
    have hee : (Qt.scan (b :: r)).e = 0 := by rw [hO] at h; exact h
    have hql := qscan_local (u := b :: r) (32 :: v) hee
    rw [hnn] at hO2 ⊢
    rw [hO2, hO, hql]
  rw [if_neg c4] at hO hO2
  by_cases c5 : b = 35 ∨ [47, 47].isPrefixOf (b :: r) = true
  · rw [if_pos c5] at hO
    have hrm := rem_ok (show (rem 6 (trim (line (b :: r)))).e = 0 by rw [← hO]; exact h)
    have hnn : (one (b :: r)).n = (trim (line (b :: r))).length := by rw [hO, hrm]
    have hv := h6 (by rw [hO, hrm])
    have htt : (b :: r).take (one (b :: r)).n = trim (line (b :: r)) := by
      rw [hnn]
      exact (List.prefix_iff_eq_take.1 ((trim_prefix _).trans (line_pre _))).symm
    have hall : ∀ x ∈ trim (line (b :: r)), (x != 10) = true := fun x hx => line_all _ x ((trim_prefix _).subset hx)
    have c5' : b = 35 ∨ [47, 47].isPrefixOf ((b :: r).take (one (b :: r)).n ++ 32 :: v) = true := by
      rcases c5 with c5 | c5
      · exact .inl c5
      · refine .inr ?_
        have hb : b = 47 := by simp [List.isPrefixOf] at c5; exact c5.1.symm
        obtain ⟨x, hx⟩ := List.isPrefixOf_iff_prefix.1 c5
        have hbr : b :: r = 47 :: 47 :: x := hx.symm
        have hln : line (47 :: 47 :: x) = 47 :: 47 :: line x := by
          unfold line
          rw [List.takeWhile_cons, if_pos (by decide), List.takeWhile_cons, if_pos (by decide)]
        have ht1 : trim (47 :: line x) ≠ [] := fun hh => by
          have := trim_head (b := 47) (t := line x) (by decide)
          rw [hh] at this
          simp at this
        obtain ⟨y, ys, hy⟩ := List.exists_cons_of_ne_nil ht1
        have hy47 : y = 47 := by
          have hp := trim_prefix (47 :: line x)
          rw [hy] at hp
          obtain ⟨z, hz⟩ := hp
          simp at hz
          exact hz.1
        rw [htt, hbr, hln, trim_cons 47 ht1, hy, hy47]
        simp [List.isPrefixOf]
    rw [if_pos c5', htt, line_tail hall hv, trim_blank _ (by decide), trim_trim] at hO2
    rw [htt, hO2, hO]
  rw [if_neg c5] at hO
  have c35 : ¬b = 35 := fun hh => c5 (.inl hh)
  by_cases c6 : [47, 42].isPrefixOf (b :: r) = true
  · rw [if_pos c6] at hO
    by_cases c7 : shut (b :: r) < 0
    · rw [hO, if_pos c7] at h; cases h
    rw [if_neg c7] at hO
    have hrm := rem_ok (show (rem 7 ((line (b :: r)).take ((shut (b :: r)).toNat + 4))).e = 0 by rw [← hO]; exact h)
    have hsl := shut_le (l := b :: r) (by omega)
    have hnn : (one (b :: r)).n = (shut (b :: r)).toNat + 4 := by rw [hO, hrm]; show (List.take _ _).length = _; rw [List.length_take]; omega
    obtain ⟨s, hs⟩ : ∃ s, s = (shut (b :: r)).toNat := ⟨_, rfl⟩
    have hss : shut (b :: r) = (s : Int) := by omega
    rw [← hs] at hsl hnn
    have htt : (b :: r).take (one (b :: r)).n = (line (b :: r)).take (s + 4) := by
      rw [hnn]
      have h1 := line_pre (b :: r)
      obtain ⟨z, hz⟩ := h1
      conv => lhs; rw [← hz]
      rw [List.take_append_of_le_length hsl]
    have hall : ∀ x ∈ (line (b :: r)).take (s + 4), (x != 10) = true := fun x hx => line_all _ x (List.mem_of_mem_take hx)
    have hl4 : ((line (b :: r)).take (s + 4)).length = s + 4 := by rw [List.length_take]; omega
    have hpx : ∀ a : List UInt8, a.length = 2 → a.isPrefixOf ((b :: r).take (one (b :: r)).n ++ 32 :: v) = a.isPrefixOf (b :: r) := fun a ha => by
      refine pre_take ?_
      rw [ha, List.take_append_of_le_length (by rw [htt, hl4]; omega), List.take_take, Nat.min_eq_left (by omega)]
    have c5' : ¬(b = 35 ∨ [47, 47].isPrefixOf ((b :: r).take (one (b :: r)).n ++ 32 :: v) = true) := by
      rw [hpx [47, 47] rfl]; exact c5
    have hline : line ((line (b :: r)).take (s + 4) ++ 32 :: v) = (line (b :: r)).take (s + 4) ++ 32 :: line v := by
      generalize (line (b :: r)).take (s + 4) = x at hall ⊢
      induction x with
      | nil =>
        unfold line
        rw [List.nil_append, List.takeWhile_cons, if_pos (by decide)]; rfl
      | cons a x ih =>
        have h1 := ih (fun y hy => hall y (by simp [hy]))
        unfold line at h1 ⊢
        rw [List.cons_append, List.takeWhile_cons, if_pos (hall a (by simp)), h1]; rfl
    have hshut : shut ((b :: r).take (one (b :: r)).n ++ 32 :: v) = (s : Int) := by
      unfold shut at hss ⊢
      rw [htt, hline, List.drop_append_of_le_length (by omega)]
      have := index_local (x := 32 :: line v) hss (by decide)
      rw [show s + ([42, 47] : List UInt8).length = s + 2 from rfl] at this
      rw [List.drop_take, show s + 4 - 2 = s + 2 by omega]
      exact this
    rw [if_neg c5', if_pos (by rw [hpx [47, 42] rfl]; exact c6), hshut, if_neg (by omega), htt, hline, Int.toNat_natCast, List.take_append_of_le_length (by omega), List.take_take, Nat.min_self] at hO2
    rw [htt, hO2, hO, ← hs]
  rw [if_neg c6] at hO
  by_cases c7 : sign (b :: r) = 0
  · rw [hO, if_pos c7] at h; cases h
  rw [if_neg c7] at hO
  have hnn : (one (b :: r)).n = sign (b :: r) := by rw [hO]
  have hsg := sign_le (b :: r)
  have key : sign ((b :: r).take (one (b :: r)).n ++ 32 :: v) = sign (b :: r) ∧ ¬(b = 35 ∨ [47, 47].isPrefixOf ((b :: r).take (one (b :: r)).n ++ 32 :: v) = true) ∧ ¬[47, 42].isPrefixOf ((b :: r).take (one (b :: r)).n ++ 32 :: v) = true := by
    by_cases c8 : sign (b :: r) = 2
    · have hl2 : 2 ≤ (b :: r).length := by rw [← c8]; exact sign_len _
      have hpx : ∀ a : List UInt8, a.length ≤ 2 → a.isPrefixOf ((b :: r).take (one (b :: r)).n ++ 32 :: v) = a.isPrefixOf (b :: r) := fun a ha => by
        refine pre_take ?_
        rw [hnn, c8, List.take_append_of_le_length (by rw [List.length_take]; omega), List.take_take, Nat.min_eq_left ha]
      refine ⟨?_, by rw [hpx [47, 47] (by decide)]; exact c5, by rw [hpx [47, 42] (by decide)]; exact c6⟩
      unfold sign
      have tw2 : ∀ y ∈ twos, y.length ≤ 2 := by decide
      have on2 : ∀ y ∈ ones, y.length ≤ 2 := by decide
      rw [any_same (L := twos) (fun x hx => hpx x (tw2 x hx)), any_same (L := ones) (fun x hx => hpx x (on2 x hx))]
    · have c9 : sign (b :: r) = 1 := by omega
      rw [hnn, c9]
      have e1 : (b :: r).take 1 ++ 32 :: v = b :: 32 :: v := rfl
      rw [e1]
      have h2 : ∀ y z : UInt8, z ≠ 32 → [y, z].isPrefixOf (b :: 32 :: v) = false := fun y z hz => by
        simp [List.isPrefixOf, hz]
      have ht0 : twos.any (·.isPrefixOf (b :: 32 :: v)) = false := by
        simp only [twos, List.any_cons, List.any_nil, h2 _ _ (show (61 : UInt8) ≠ 32 by decide), h2 _ _ (show (38 : UInt8) ≠ 32 by decide), h2 _ _ (show (124 : UInt8) ≠ 32 by decide), Bool.or_self]
      have hu0 : twos.any (·.isPrefixOf (b :: r)) = false := Bool.eq_false_iff.2 fun hh => by
        unfold sign at c9
        rw [if_pos hh] at c9
        cases c9
      have hu1 : ones.any (·.isPrefixOf (b :: r)) = true := by
        unfold sign at c9
        rw [if_neg (by rw [hu0]; simp)] at c9
        by_cases hh : ones.any (·.isPrefixOf (b :: r)) = true
        · exact hh
        · rw [if_neg hh] at c9; cases c9
      refine ⟨?_, ?_, ?_⟩
      · have hs1 : ones.any (·.isPrefixOf (b :: 32 :: v)) = ones.any (·.isPrefixOf (b :: r)) := any_same fun x hx => pre_take (by
          have : ∀ y ∈ ones, y.length = 1 := by decide
          rw [this x hx]; rfl)
        unfold sign
        rw [ht0, hs1, hu1]; rfl
      · rintro (hh | hh)
        · exact c35 hh
        · rw [h2 47 47 (by decide)] at hh; cases hh
      · intro hh
        rw [h2 47 42 (by decide)] at hh; cases hh
  rw [if_neg key.2.1, if_neg key.2.2, key.1, if_neg c7] at hO2
  rw [hO2, hO]
end Go.Proofs.YthabfgpncebigaaDoor.Lx

/- Tokens' texts joined are those tokens again. No program in sight. -/
namespace Go.Proofs.YthabfgpncebigaaDoor.Lx

/-- The tokens' texts, one behind the other; a blank behind each that is no line's end. -/
def jn1 (t : Tok) : List UInt8 := if t.k = 5 then t.t else t.t ++ [32]
def jn : List Tok → List UInt8
  | [] => []
  | t :: r => jn1 t ++ jn r
theorem jn_snoc (a : List Tok) (t : Tok) : jn (a ++ [t]) = jn a ++ jn1 t := by
  induction a with
  | nil => simp [jn]
  | cons x a ih => rw [List.cons_append, jn, jn, ih, List.append_assoc]
theorem jn_app (a b : List Tok) : jn (a ++ b) = jn a ++ jn b := by
  induction a with
  | nil => rfl
  | cons x a ih => rw [List.cons_append, jn, jn, ih, List.append_assoc]
theorem walk_blanks : ∀ (bl : List UInt8), (∀ b ∈ bl, blank b = true) → ∀ (q : Nat) (rest : List UInt8), walk q (bl ++ rest) = walk (q + bl.length) rest
  | [], _, q, rest => rfl
  | b :: bl, h, q, rest => by
    rw [List.cons_append, walk_blank (h b (by simp)), walk_blanks bl (fun x hx => h x (by simp [hx])) (q + 1) rest, List.length_cons, show q + 1 + bl.length = q + (bl.length + 1) by omega]
theorem line_split (u : List UInt8) : ∃ rest, u = line u ++ rest ∧ (rest = [] ∨ ∃ x, rest = 10 :: x) := by
  refine ⟨u.dropWhile (· != 10), (List.takeWhile_append_dropWhile).symm, ?_⟩
  cases h : u.dropWhile (· != 10) with
  | nil => exact .inl rfl
  | cons a x =>
    have h2 : u.dropWhile (· != 10) ≠ [] := by rw [h]; simp
    have h3 := List.head_dropWhile_not (· != (10 : UInt8)) h2
    have h4 : (u.dropWhile (· != 10)).head h2 = a := by simp [h]
    rw [h4] at h3
    exact .inr ⟨x, by simp at h3; rw [h3]⟩
theorem trim_split (t : List UInt8) : ∃ bl, t = trim t ++ bl ∧ ∀ b ∈ bl, blank b = true := by
  refine ⟨(t.reverse.takeWhile (([32, 9, 13] : List UInt8).contains ·)).reverse, ?_, fun b hb => ?_⟩
  · unfold trim Lib.trimRightS
    rw [← List.reverse_append, List.takeWhile_append_dropWhile, List.reverse_reverse]
  · exact tw_all _ _ b (List.mem_reverse.1 hb)
theorem rem_k {k : Nat} {t : List UInt8} (h : (rem k t).e = 0) : rem k t = ⟨k, t.length, 0, 0⟩ := by
  unfold rem at h ⊢
  split
  · rfl
  · rename_i h1
    rw [if_neg h1] at h
    exact absurd h h1
theorem one_k5 {b : UInt8} {r : List UInt8} (h : (one (b :: r)).e = 0) (h5 : (one (b :: r)).k = 5) : b = 10 ∧ (one (b :: r)).n = 1 := by
  by_cases hb : b = 10
  · exact ⟨hb, by rw [one_hd, if_pos hb]⟩
  · rw [one_hd, if_neg hb] at h h5
    exfalso
    split at h5
    · cases h5
    · rename_i c1
      rw [if_neg c1] at h
      split at h5
      · cases h5
      · rename_i c2
        rw [if_neg c2] at h
        split at h5
        · cases h5
        · rename_i c3
          rw [if_neg c3] at h
          split at h5
          · rename_i c4
            rw [if_pos c4] at h
            rw [rem_k h] at h5
            cases h5
          · rename_i c4
            rw [if_neg c4] at h
            split at h5
            · rename_i c5
              rw [if_pos c5] at h
              split at h5
              · cases h5
              · rename_i c6
                rw [if_neg c6] at h
                rw [rem_k h] at h5
                cases h5
            · split at h5 <;> cases h5
theorem one_k6 {b : UInt8} {r : List UInt8} (h : (one (b :: r)).e = 0) (h5 : (one (b :: r)).k = 6) : (one (b :: r)).n = (trim (line (b :: r))).length := by
  rw [one_hd] at h h5 ⊢
  split at h5
  · cases h5
  · rename_i c0
    rw [if_neg c0] at h ⊢
    split at h5
    · cases h5
    · rename_i c1
      rw [if_neg c1] at h ⊢
      split at h5
      · cases h5
      · rename_i c2
        rw [if_neg c2] at h ⊢
        split at h5
        · cases h5
        · rename_i c3
          rw [if_neg c3] at h ⊢
          split at h5
          · rename_i c4
            rw [if_pos c4] at h ⊢
            rw [rem_k h]
          · rename_i c4
            rw [if_neg c4] at h
            split at h5
            · rename_i c5
              rw [if_pos c5] at h
              split at h5
              · cases h5
              · rename_i c6
                rw [if_neg c6] at h
                rw [rem_k h] at h5
                cases h5
            · split at h5 <;> cases h5
/-- Behind a comment to the line's end comes the line's end, or nothing. -/
theorem jn_k6 {b : UInt8} {r : List UInt8} (q : Nat) (h : (one (b :: r)).e = 0) (h6 : (one (b :: r)).k = 6) :
    jn (walk q ((b :: r).drop (one (b :: r)).n)).1 = [] ∨ ∃ v, jn (walk q ((b :: r).drop (one (b :: r)).n)).1 = 10 :: v := by
  rw [one_k6 h h6]
  obtain ⟨rest, e1, hr⟩ := line_split (b :: r)
  obtain ⟨bl, e2, hbl⟩ := trim_split (line (b :: r))
  have e3 : (b :: r).drop (trim (line (b :: r))).length = bl ++ rest := by
    generalize line (b :: r) = L at *
    rw [e1, e2]
    rw [show trim (trim L ++ bl) = trim L by rw [← e2]]
    rw [List.append_assoc, List.drop_left]
  rw [e3, walk_blanks bl hbl]
  rcases hr with rfl | ⟨x, rfl⟩
  · exact .inl (by rw [walk_nil]; rfl)
  · refine .inr ?_
    have h1 : one (10 :: x) = ⟨5, 1, 0, 0⟩ := by rw [one_hd, if_pos rfl]
    rw [walk_tok (by decide) (by rw [h1])]
    rw [h1]
    exact ⟨_, rfl⟩
theorem join_walkF : ∀ (k : Nat) (l : List UInt8) (q q' : Nat), l.length < k → (walk q l).2.2 = 0 →
    (walk q' (jn (walk q l).1)).2.2 = 0 ∧ (walk q' (jn (walk q l).1)).1.map kt = (walk q l).1.map kt
  | 0, _, _, _, h, _ => absurd h (Nat.not_lt_zero _)
  | k + 1, [], q, q', _, _ => by
    rw [walk_nil]
    exact ⟨by rw [jn, walk_nil], by rw [jn, walk_nil]⟩
  | k + 1, b :: r, q, q', hk, he => by
    have hk' : r.length < k := by simpa using hk
    cases hb : blank b
    · by_cases h1 : (one (b :: r)).e = 0
      · have hl := one_len h1
        have hd : ((b :: r).drop (one (b :: r)).n).length < k := by rw [List.length_drop]; simp only [List.length_cons] at hl ⊢; omega
        have hw := walk_tok (p := q) (r := r) hb h1
        rw [hw] at he ⊢
        have ih := fun q2 => join_walkF k _ (q + (one (b :: r)).n) q2 hd he
        by_cases h5 : (one (b :: r)).k = 5
        · obtain ⟨rfl, hn⟩ := one_k5 h1 h5
          have h2 : ∀ x, one (10 :: x) = ⟨5, 1, 0, 0⟩ := fun x => by rw [one_hd, if_pos rfl]
          simp only [h2] at ih ⊢
          have e1 : ∀ (p : Int) (R : List Tok), jn (⟨((5 : Nat) : Int), List.take 1 (10 :: r), p⟩ :: R) = 10 :: jn R := fun p R => rfl
          rw [e1]
          have hw2 := walk_tok (p := q') (r := jn (walk (q + 1) ((10 :: r).drop 1)).1) (b := 10) (by decide) (by rw [h2])
          simp only [h2] at hw2
          rw [hw2]
          have i := ih (q' + 1)
          exact ⟨i.1, by rw [List.map_cons, List.map_cons, show (10 :: jn (walk (q + 1) ((10 :: r).drop 1)).1).drop 1 = jn (walk (q + 1) ((10 :: r).drop 1)).1 from rfl, i.2]; rfl⟩
        · have h6 := fun h => jn_k6 (b := b) (r := r) (q + (one (b :: r)).n) h1 h
          have hloc := one_local h1 h5 h6
          have e1 : ∀ (p : Int) (R : List Tok), jn (⟨((one (b :: r)).k : Int), (b :: r).take (one (b :: r)).n, p⟩ :: R) = (b :: r).take (one (b :: r)).n ++ 32 :: jn R := fun p R => by
            rw [jn, jn1, if_neg (by simp only; omega)]
            simp
          rw [e1]
          generalize (walk (q + (one (b :: r)).n) ((b :: r).drop (one (b :: r)).n)).1 = R at *
          obtain ⟨n, hn⟩ : ∃ n, (one (b :: r)).n = n + 1 := ⟨(one (b :: r)).n - 1, by omega⟩
          have hlen : ((b :: r).take (one (b :: r)).n).length = (one (b :: r)).n := by rw [List.length_take]; omega
          have hW : (b :: r).take (one (b :: r)).n ++ 32 :: jn R = b :: (r.take n ++ 32 :: jn R) := by rw [hn, List.take_succ_cons, List.cons_append]
          have hw2 := walk_tok (p := q') (b := b) (r := r.take n ++ 32 :: jn R) hb (by rw [← hW, hloc]; exact h1)
          rw [← hW, hloc] at hw2
          rw [hw2]
          have e2 : ((b :: r).take (one (b :: r)).n ++ 32 :: jn R).drop (one (b :: r)).n = 32 :: jn R := List.drop_left' hlen
          have e3 : ((b :: r).take (one (b :: r)).n ++ 32 :: jn R).take (one (b :: r)).n = (b :: r).take (one (b :: r)).n := List.take_left' hlen
          rw [e2, e3, walk_blank (by decide)]
          have i := ih (q' + (one (b :: r)).n + 1)
          exact ⟨i.1, by rw [List.map_cons, List.map_cons, i.2]; rfl⟩
      · rw [walk_bad hb h1] at he
        exact absurd he h1
    · rw [walk_blank hb] at he ⊢
      exact join_walkF k r _ _ hk' he
theorem jn_leF : ∀ (k : Nat) (l : List UInt8) (q : Nat), l.length < k → (jn (walk q l).1).length ≤ 2 * l.length
  | 0, _, _, h => absurd h (Nat.not_lt_zero _)
  | k + 1, [], q, _ => Nat.le_refl _
  | k + 1, b :: r, q, hk => by
    simp only [List.length_cons] at hk
    cases hb : blank b
    · by_cases h1 : (one (b :: r)).e = 0
      · have hl := one_len h1
        rw [walk_tok hb h1]
        have := jn_leF k ((b :: r).drop (one (b :: r)).n) (q + (one (b :: r)).n) (by rw [List.length_drop, List.length_cons]; omega)
        rw [List.length_drop] at this
        rw [jn, List.length_append]
        have h2 : ∀ p : Int, (jn1 ⟨(one (b :: r)).k, (b :: r).take (one (b :: r)).n, p⟩).length ≤ (one (b :: r)).n + 1 := fun p => by
          unfold jn1
          split
          · rw [List.length_take]; omega
          · rw [List.length_append, List.length_take]; simp only [List.length_cons, List.length_nil]; omega
        have := h2 q
        simp only [List.length_cons] at *
        omega
      · rw [walk_bad hb h1]; exact Nat.zero_le _
    · rw [walk_blank hb]
      have := jn_leF k r (q + 1) (by omega)
      simp only [List.length_cons]
      omega
theorem jn_le (l : List UInt8) : (jn (walk 0 l).1).length ≤ 2 * l.length := jn_leF _ l 0 (Nat.lt_succ_self _)
theorem jn_take {toks : List Tok} {k : Nat} (h : k < toks.length) : jn (toks.take (k + 1)) = jn (toks.take k) ++ jn1 toks[k] := by
  rw [List.take_succ_eq_append_getElem h, jn_snoc]
theorem join_walk {l : List UInt8} (h : (walk 0 l).2.2 = 0) : (walk 0 (jn (walk 0 l).1)).2.2 = 0 ∧ (walk 0 (jn (walk 0 l).1)).1.map kt = (walk 0 l).1.map kt :=
  join_walkF _ l 0 0 (Nat.lt_succ_self _) h
end Go.Proofs.YthabfgpncebigaaDoor.Lx
