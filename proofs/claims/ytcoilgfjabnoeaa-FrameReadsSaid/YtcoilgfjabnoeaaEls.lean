/- Slices of slices of bytes. -/
import Derived.Test.YtcoilgfjabnoeaaApp
namespace Go.Proofs.Ytcoilgfjabnoeaa
open Go.RowKit

/-- The cells xs are slices that read as the lists ls, none of them in a block of T. -/
def Els (w : World) (xs : List Value) (ls : List (List UInt8)) (T : Nat → Prop) : Prop :=
  xs.length = ls.length ∧ ∀ j (h : j < ls.length), ∃ A n c, xs[j]? = some (.slice A n c) ∧ Bs w A n c ls[j] ∧ ∀ ad, A = some ad → 0 < n → ¬ T ad.block
theorem Bs.keepT {w w' : World} {A : Option Addr} {n c : Nat} {l : List UInt8} {T : Nat → Prop} (h : Bs w A n c l) (hT : ∀ ad, A = some ad → 0 < n → ¬ T ad.block) (hs : w.heap.size ≤ w'.heap.size) (hg : ∀ k, k < w.heap.size → ¬ T k → w'.heap[k]? = w.heap[k]?) : Bs w' A n c l :=
  ⟨h.1, h.2.1, h.2.2.1, fun hn => by
    obtain ⟨ad, e, hb, hc⟩ := h.2.2.2 hn
    refine ⟨ad, e, Nat.lt_of_lt_of_le hb hs, fun j u hu => ?_⟩
    rw [World.cell?_of_block (hg _ (by rw [block_of_add]; exact hb) (by rw [block_of_add]; exact hT ad e hn))]
    exact hc j u hu⟩
theorem Bs.lt {w : World} {A : Option Addr} {n c : Nat} {l : List UInt8} (h : Bs w A n c l) : ∀ ad, A = some ad → 0 < n → ad.block < w.heap.size := fun ad e hm => by
  obtain ⟨ad', e', h1, _⟩ := h.2.2.2 hm
  rw [e] at e'; cases e'; exact h1
section
variable {w w' : World} {xs : List Value} {ls : List (List UInt8)} {T : Nat → Prop}
theorem Els.nil (w : World) (T : Nat → Prop) : Els w [] [] T := ⟨rfl, fun j h => by simp at h⟩
theorem Els.keep (h : Els w xs ls T) (hs : w.heap.size ≤ w'.heap.size) (hg : ∀ k, k < w.heap.size → ¬ T k → w'.heap[k]? = w.heap[k]?) : Els w' xs ls T :=
  ⟨h.1, fun j hj => by obtain ⟨A, n, c, e, hb, hT⟩ := h.2 j hj; exact ⟨A, n, c, e, hb.keepT hT hs hg, hT⟩⟩
theorem Els.below (h : Els w xs ls T) (hb : Below w.heap.size w w') : Els w' xs ls T := h.keep hb.size fun k hk _ => hb.block k hk
theorem Els.drewN (h : Els w xs ls T) (k : Nat) : Els (w.drewN k) xs ls T := h.below (below_drewN_self _ _ _)
theorem Els.weaken {T' : Nat → Prop} (h : Els w xs ls T) (hT : ∀ k, k < w.heap.size → T' k → T k) : Els w xs ls T' :=
  ⟨h.1, fun j hj => by obtain ⟨A, n, c, e, hb, h2⟩ := h.2 j hj; exact ⟨A, n, c, e, hb, fun ad e1 e2 e3 => h2 ad e1 e2 (hT _ (hb.lt ad e1 e2) e3)⟩⟩
theorem Els.snoc (h : Els w xs ls T) {A : Option Addr} {n c : Nat} {l : List UInt8} (hb : Bs w A n c l) (hT : ∀ ad, A = some ad → 0 < n → ¬ T ad.block) : Els w (xs ++ [.slice A n c]) (ls ++ [l]) T := by
  refine ⟨by simp [h.1], fun j hj => ?_⟩
  by_cases hlt : j < ls.length
  · obtain ⟨A2, n2, c2, e, hb2, h2⟩ := h.2 j hlt
    refine ⟨A2, n2, c2, ?_, ?_, h2⟩
    · rw [List.getElem?_append_left (by have := h.1; omega)]; exact e
    · rw [List.getElem_append_left hlt]; exact hb2
  · have hj2 : j = ls.length := by simp at hj; omega
    subst hj2
    refine ⟨A, n, c, ?_, ?_, hT⟩
    · rw [← h.1]; simp
    · simp; exact hb
end
theorem info_row : (Try.prog.info? 22).map (fun i => (i.zero, i.size, i.bytes)) = some (some (.slice none 0 0), 1, 24) := by kernel_rfl
/-- append of one slice to a row of slices of the call's own. -/
theorem wpList_app_row {ops : Array Oper} {rest : List Oper} {o : Oper} {a : Act} {Q : Exit → Act → World → Prop} {w : World} (W : World) (hgd : o.guard = none) (s x : Operand)
    (ho : o.op = .call { callee := .builtin .append, args := #[s, x], argTypes := #[36, 36] })
    (base : Nat) (xs news : List Value) (A : Option Addr) (n c : Nat) (hown : w.ownsRow base 22 1 (.slice A n c) n xs) (hs : a.eval s = .slice A n c)
    (B : Option Addr) (m d : Nat) (hr : Rd w 1 B m d news) (hx : a.eval x = .slice B m d) (h1 : ∀ u ∈ news, u.oneCell' = true)
    (hbytes : (n + m) * 24 ≤ 140737488355328) (hbase : base ≤ w.heap.size) (hB : Below base W w) (k : Nat) (hk : n + m = k) (ys : List Value) (hys : xs ++ news = ys)
    (h : ∀ A' c' w', w'.ownsRow base 22 1 (.slice A' k c') k ys → Below base W w' → w.grownBy w' (Value.slice A n c).ownBlock → ((Value.slice A' k c').ownBlock = (Value.slice A n c).ownBlock ∨ (Value.slice A' k c').ownBlock = some w.heap.size) → wpList Try.prog ops Q rest (a.put o.dst (.slice A' k c')) w') : wpList Try.prog ops Q (o :: rest) a w := by
  obtain ⟨i0, hi, hz0, hz1, hz2⟩ := info_parts info_row
  refine wpList_append_rd w hgd s x _ ho base 22 i0 _ 1 24 Try.underlying36 hi hz0 hz1 hz2 rfl (by omega) _ _ _ hown hs _ _ _ _ hr hx h1 (by unfold maxLen; omega) hbytes hbase k hk ys hys ?_
  intro A' c' w' g1 g2 g3
  exact h A' c' w' g1 (below_append hB hown g2 (Nat.le_refl _) hbase) g2 g3
theorem own_nil_row (w : World) (base : Nat) : w.ownsRow base 22 1 (.slice none 0 0) 0 [] := World.ownsRow_nil _ _ _ _
theorem rd_new1_at (w : World) (e : TypeId) (v : Value) (g : Nat) (hg : w.heap.size = g) : Rd (w.alloc (.cells #[v] e)) 1 (some ⟨g, 0, none⟩) 1 1 [v] := by
  subst hg; exact Rd.new1 w e v
/-- A slice of slices that reads as the lists. -/
def Bss (w : World) (A : Option Addr) (n c : Nat) (ls : List (List UInt8)) : Prop := ∃ xs, Rd w 1 A n c xs ∧ Els w xs ls (fun _ => False)
theorem Bss.below {w w' : World} {A : Option Addr} {n c : Nat} {ls : List (List UInt8)} (h : Bss w A n c ls) (hb : Below w.heap.size w w') : Bss w' A n c ls := by
  obtain ⟨xs, h1, h2⟩ := h
  exact ⟨xs, h1.below hb, h2.below hb⟩
theorem Bss.drewN {w : World} {A : Option Addr} {n c : Nat} {ls : List (List UInt8)} (h : Bss w A n c ls) (k : Nat) : Bss (w.drewN k) A n c ls := h.below (below_drewN_self _ _ _)
theorem Bss.len {w : World} {A : Option Addr} {n c : Nat} {ls : List (List UInt8)} (h : Bss w A n c ls) : n = ls.length := by
  obtain ⟨xs, h1, h2⟩ := h
  have := h1.1; have := h2.1; omega
theorem Bss.max {w : World} {A : Option Addr} {n c : Nat} {ls : List (List UInt8)} (h : Bss w A n c ls) : n ≤ 9223372036854775807 := by
  obtain ⟨xs, h1, h2⟩ := h
  exact h1.max
theorem Bss.nil (w : World) : Bss w none 0 0 [] := ⟨[], Rd.nil w 1, Els.nil _ _⟩
theorem Bss.addr {w : World} {A : Option Addr} {n c : Nat} {ls : List (List UInt8)} (h : Bss w A n c ls) (hn : 0 < n) : ∃ ad, A = some ad := by
  obtain ⟨xs, h1, h2⟩ := h
  exact h1.addr hn
theorem Bss.cell {w : World} {ad : Addr} {n c : Nat} {ls : List (List UInt8)} (h : Bss w (some ad) n c ls) {k : Nat} (hk : k < ls.length) : ∃ A m d, w.cell? (ad.add k) = some (.slice A m d) ∧ Bs w A m d ls[k] := by
  obtain ⟨xs, h1, h2⟩ := h
  obtain ⟨A, m, d, e, hb, _⟩ := h2.2 k hk
  exact ⟨A, m, d, h1.cell e, hb⟩
theorem Bss.addr_lt {w : World} {ad : Addr} {n c : Nat} {ls : List (List UInt8)} (h : Bss w (some ad) n c ls) (hn : 0 < n) (k : Nat) : (ad.add k).block < w.heap.size := by
  obtain ⟨xs, h1, h2⟩ := h
  obtain ⟨ad', e, hb, _⟩ := h1.2.2.2 hn
  cases e
  rw [block_of_add]; exact hb
theorem Bss.cellAt {w w' : World} {ad : Addr} {n c : Nat} {ls : List (List UInt8)} (h : Bss w (some ad) n c ls) (hB : Below w.heap.size w w') {k : Nat} (hk : k < ls.length) : ∃ A m d, w'.cell? (ad.add k) = some (.slice A m d) ∧ Bs w A m d ls[k] := by
  obtain ⟨xs, h1, h2⟩ := h
  obtain ⟨A, m, d, e, hb, _⟩ := h2.2 k hk
  exact ⟨A, m, d, (h1.below hB).cell e, hb⟩
end Go.Proofs.Ytcoilgfjabnoeaa
