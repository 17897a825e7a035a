/- append to a row of bytes of the call's own, all but the lengths paid for. -/
import Derived.Test.YtcoilgfjabnoeaaChecked
import Derived.Test.YtcoilgfjabnoeaaBase
namespace Go.Proofs.Ytcoilgfjabnoeaa
open Go.RowKit

theorem info_byte : (Try.prog.info? 5).map (fun i => (i.zero, i.size, i.bytes)) = some (some (.int .u8 0), 1, 1) := by kernel_rfl

theorem wpList_app {ops : Array Oper} {rest : List Oper} {o : Oper} {a : Act} {Q : Exit → Act → World → Prop} {w : World} (W : World) (hgd : o.guard = none) (s x : Operand)
    (ho : o.op = .call { callee := .builtin .append, args := #[s, x], argTypes := #[22, 22] })
    (base : Nat) (p l : List UInt8) (A : Option Addr) (n c : Nat) (hown : w.ownsRow base 5 1 (.slice A n c) n (bval p)) (hs : a.eval s = .slice A n c)
    (B : Option Addr) (m d : Nat) (hr : Bs w B m d l) (hx : a.eval x = .slice B m d)
    (hbytes : n + m ≤ 140737488355328) (hbase : base ≤ w.heap.size) (hB : Below base W w) (k : Nat) (hk : n + m = k) (q : List UInt8) (hq : p ++ l = q)
    (h : ∀ A' c' w', w'.ownsRow base 5 1 (.slice A' k c') k (bval q) → Below base W w' → w.grownBy w' (Value.slice A n c).ownBlock → wpList Try.prog ops Q rest (a.put o.dst (.slice A' k c')) w') : wpList Try.prog ops Q (o :: rest) a w := by
  obtain ⟨i0, hi, hz0, hz1, hz2⟩ := info_parts info_byte
  subst hq
  refine wpList_append_rd w hgd s x _ ho base 5 i0 _ 1 1 Try.underlying22 hi hz0 hz1 hz2 rfl (by omega) _ _ _ hown hs _ _ _ _ hr hx (bval_one l) (by unfold maxLen; omega) (by omega) hbase k hk _ (bval_append p l).symm ?_
  intro A' c' w' h1 h2 _
  exact h A' c' w' h1 (below_append hB hown h2 (Nat.le_refl _) hbase) h2

/-- What a nil slice of the call's own owns. -/
theorem own_nil (w : World) (base : Nat) : w.ownsRow base 5 1 (.slice none 0 0) 0 (bval []) := World.ownsRow_nil _ _ _ _
/-- An empty row that was just made. -/
theorem own_empty (w : World) (base : Nat) (h : base ≤ w.heap.size) : (w.alloc (.cells #[] 5)).ownsRow base 5 1 (.slice (some ⟨w.heap.size, 0, none⟩) 0 0) 0 (bval []) :=
  World.ownsRow_lit w #[] 0 h (by simp [maxLen]) rfl
theorem bs_one (w : World) (c : Nat) (hc : c < 256) : Bs (w.alloc (.cells #[.int .u8 (c : Int)] 5)) (some ⟨w.heap.size, 0, none⟩) 1 1 [UInt8.ofNat c] := by
  have := Rd.new1 w 5 (.int .u8 (c : Int))
  unfold Bs bval
  have e : ((UInt8.ofNat c).toNat : Int) = c := by simp; omega
  simp only [List.map_cons, List.map_nil, e]
  exact this
theorem own_bs {w : World} {base : Nat} {A : Option Addr} {n c : Nat} {l : List UInt8} (h : w.ownsRow base 5 1 (.slice A n c) n (bval l)) : Bs w A n c l := Bs.of_own h
theorem own_len {w : World} {base : Nat} {A : Option Addr} {n c : Nat} {l : List UInt8} (h : w.ownsRow base 5 1 (.slice A n c) n (bval l)) : n = l.length := (Bs.of_own h).len
theorem own_keep {w w' : World} {base e size : Nat} {v : Value} {n : Nat} {xs : List Value} (h : w.ownsRow base e size v n xs) (hb : Below w.heap.size w w') : w'.ownsRow base e size v n xs := by
  obtain ⟨h1, h2⟩ := h
  refine ⟨h1, ?_⟩
  rcases h2 with h2 | ⟨g, cap, cur, hv, hg, hh, r⟩
  · exact .inl h2
  · exact .inr ⟨g, cap, cur, hv, hg, by rw [hb.block _ (Array.getElem?_eq_some_iff.1 hh).1]; exact hh, r⟩
/-- 'b[k:]', its address under one name. -/
theorem cut_bytes {w : World} {A : Option Addr} {n c k : Nat} {l : List UInt8} (h : Bs w A n c l) (hk : k ≤ n) :
    ∃ A2, (∀ w', (Instr.slice 22 (.slice A n c) (some (.int .i64 (k : Int))) none none).run Try.prog w' = .ok (.slice A2 (n - k) (c - k)) w') ∧ Bs w A2 (n - k) (c - k) (l.drop k) ∧ (∀ a2, A2 = some a2 → ∃ ad, A = some ad ∧ a2.block = ad.block) := by
  have hc := h.2.1
  have hcut := Rd.cut h hk
  rw [Nat.mul_one, bval_drop] at hcut
  have h0 : (0 : Int) ≤ (k : Int) := by omega
  have h1 : (k : Int) ≤ (n : Int) := by omega
  refine ⟨if c = k then A else A.map (fun x : Addr => x.add k), fun w' => ?_, hcut, fun a2 e => ?_⟩
  · by_cases hck : c = k
    · subst hck
      simp [h1, go_sem]
    · simp [h1, hck, go_sem]
  · split at e
    · exact ⟨a2, e, rfl⟩
    · obtain ⟨ad, rfl, rfl⟩ := Option.map_eq_some_iff.1 e
      exact ⟨ad, rfl, block_of_add _ _⟩
theorem own_head {w : World} {base : Nat} {e : TypeId} {size n c : Nat} {A : Option Addr} {xs : List Value} (h : w.ownsRow base e size (.slice A n c) n xs) (hn : 0 < n) : ∃ g, A = some ⟨g, 0, none⟩ ∧ base ≤ g := by
  rcases h.2 with ⟨hv, h0⟩ | ⟨g, cap, cur, hv, hb, _⟩
  · omega
  · injection hv with hA
    exact ⟨g, hA, hb⟩
/-- What a call hands back: a slice of its own that reads as l. -/
def Ob (w : World) (l : List UInt8) (e : Ending) (w' : World) : Prop := Owned w 5 (bval l) e w'
theorem Bs.sub {w : World} {A : Option Addr} {n c : Nat} {l : List UInt8} (h : Bs w A n c l) (i j : Int) (s k : Nat) (hi : i = (s : Int)) (hj : j = ((s + k : Nat) : Int)) (hk : s + k ≤ n) :
    ∃ A2, (∀ w', (Instr.slice 22 (.slice A n c) (some (.int .i64 i)) (some (.int .i64 j)) none).run Try.prog w' = .ok (.slice A2 k (c - s)) w') ∧ Bs w A2 k (c - s) ((l.drop s).take k) ∧ (∀ a2, A2 = some a2 → ∃ ad, A = some ad ∧ a2.block = ad.block) := by
  have hc := h.2.1
  have hcut := Rd.cut h (k := s) (by omega)
  rw [Nat.mul_one, bval_drop] at hcut
  have hup := Rd.upto hcut (k := k) (by omega)
  rw [Nat.mul_one, bval_take] at hup
  obtain ⟨t, ht⟩ : ∃ t, t = s + k := ⟨_, rfl⟩
  have hkt : k = t - s := by omega
  rw [← ht] at hj hk
  subst hi hj
  have h1 : s ≤ t := by omega
  have h2 : t ≤ c := by omega
  refine ⟨if c = s then A else A.map (fun x : Addr => x.add s), fun w' => ?_, hup, fun a2 e => ?_⟩
  · rw [hkt]
    clear hkt hup ht
    by_cases hck : c = s
    · subst hck
      simp [h1, h2, go_sem]
    · simp [h1, h2, hck, go_sem]
  · split at e
    · exact ⟨a2, e, rfl⟩
    · obtain ⟨ad, rfl, rfl⟩ := Option.map_eq_some_iff.1 e
      exact ⟨ad, rfl, block_of_add _ _⟩
theorem cut_bytes_int {w : World} {A : Option Addr} {n c k : Nat} {l : List UInt8} (h : Bs w A n c l) (i : Int) (hi : i = (k : Int)) (hk : k ≤ n) :
    ∃ A2, (∀ w', (Instr.slice 22 (.slice A n c) (some (.int .i64 i)) none none).run Try.prog w' = .ok (.slice A2 (n - k) (c - k)) w') ∧ Bs w A2 (n - k) (c - k) (l.drop k) ∧ (∀ a2, A2 = some a2 → ∃ ad, A = some ad ∧ a2.block = ad.block) := by
  subst hi
  exact cut_bytes h hk
end Go.Proofs.Ytcoilgfjabnoeaa
