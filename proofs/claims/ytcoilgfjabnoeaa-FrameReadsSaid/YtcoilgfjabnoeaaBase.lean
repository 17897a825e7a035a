/- Small words on memory: a slice that reads as a list of values, a row of the call's own. No program in sight. -/
import Derived.WalkKit
import Derived.WalkSpells
import Derived.WalkLawsBesides
import Derived.Maps.AppendAt
import Derived.Deep.AppendLies
import Derived.Deep.Draws
import Derived.Lib.Hide
import Derived.Deep.QuietTactic
import Derived.BigQuiet
import Derived.Deep.DeepFit
import Derived.Deep.LoopGhost
namespace Go.Proofs.Ytcoilgfjabnoeaa
open Go.RowKit

/-- The slice value with address A, length n, capacity c reads in world w as the cells xs, each element of sz cells. -/
def Rd (w : World) (sz : Nat) (A : Option Addr) (n c : Nat) (xs : List Value) : Prop :=
  xs.length = n * sz ∧ n ≤ c ∧ c ≤ maxLen ∧ (0 < n → ∃ ad, A = some ad ∧ ad.block < w.heap.size ∧ ∀ j u, xs[j]? = some u → w.cell? (ad.add j) = some u)

theorem block_of_add (a : Addr) (n : Nat) : (a.add n).block = a.block := by unfold Addr.add; split <;> rfl
theorem add_of_add (a : Addr) (i j : Nat) : (a.add i).add j = a.add (i + j) := by
  unfold Addr.add
  by_cases hi : i = 0 <;> by_cases hj : j = 0 <;> simp [hi, hj, Nat.add_assoc]

section
variable {w w' : World} {sz n c : Nat} {A : Option Addr} {xs : List Value}
theorem Rd.nil (w : World) (sz : Nat) : Rd w sz none 0 0 [] := ⟨by simp, Nat.le_refl _, Nat.zero_le _, fun h => absurd h (by omega)⟩
theorem Rd.len (h : Rd w 1 A n c xs) : n = xs.length := by have := h.1; omega
theorem Rd.max (h : Rd w sz A n c xs) : n ≤ 9223372036854775807 := by have h1 := h.2.1; have h2 := h.2.2.1; unfold maxLen at h2; omega
theorem Rd.maxc (h : Rd w sz A n c xs) : c ≤ 9223372036854775807 := by have h2 := h.2.2.1; unfold maxLen at h2; omega
theorem Rd.addr (h : Rd w sz A n c xs) (hn : 0 < n) : ∃ ad, A = some ad := by obtain ⟨ad, e, _⟩ := h.2.2.2 hn; exact ⟨ad, e⟩
theorem Rd.cell {ad : Addr} (h : Rd w sz (some ad) n c xs) {k : Nat} {u : Value} (hk : xs[k]? = some u) : w.cell? (ad.add k) = some u := by
  have hlt : k < xs.length := (List.getElem?_eq_some_iff.1 hk).1
  have hn : 0 < n := by
    rcases Nat.eq_zero_or_pos n with h0 | h0
    · have := h.1; rw [h0, Nat.zero_mul] at this; omega
    · exact h0
  obtain ⟨ad', e, _, hc⟩ := h.2.2.2 hn
  cases e
  exact hc k u hk
theorem Rd.keep (h : Rd w sz A n c xs) (hs : w.heap.size ≤ w'.heap.size) (hk : ∀ p : Addr, p.block < w.heap.size → w'.cell? p = w.cell? p) : Rd w' sz A n c xs :=
  ⟨h.1, h.2.1, h.2.2.1, fun hn => by
    obtain ⟨ad, e, hb, hc⟩ := h.2.2.2 hn
    exact ⟨ad, e, by omega, fun j u hu => (hk _ (by rw [block_of_add]; exact hb)).trans (hc j u hu)⟩⟩
theorem Rd.below (h : Rd w sz A n c xs) (hb : Below w.heap.size w w') : Rd w' sz A n c xs := h.keep hb.size fun _ hp => hb.cell hp
theorem Rd.drew (h : Rd w sz A n c xs) : Rd w.drew sz A n c xs := h
theorem Rd.drewN (h : Rd w sz A n c xs) (k : Nat) : Rd (w.drewN k) sz A n c xs := h
theorem Rd.alloc (h : Rd w sz A n c xs) (o : Obj) : Rd (w.alloc o) sz A n c xs := h.below ((Below.refl _ _).alloc (Nat.le_refl _) o)
theorem Rd.cut (h : Rd w sz A n c xs) {k : Nat} (hk : k ≤ n) : Rd w sz (if c = k then A else A.map (·.add (k * sz))) (n - k) (c - k) (xs.drop (k * sz)) := by
  refine ⟨by rw [List.length_drop, h.1, Nat.sub_mul], by have := h.2.1; omega, by have := h.2.2.1; omega, fun hn => ?_⟩
  obtain ⟨ad, rfl, hb, hcell⟩ := h.2.2.2 (by omega)
  rw [if_neg (by have := h.2.1; omega)]
  refine ⟨ad.add (k * sz), rfl, by rw [block_of_add]; exact hb, fun j u hu => ?_⟩
  rw [add_of_add]
  exact hcell _ u (by rw [← hu, List.getElem?_drop])
theorem Rd.upto (h : Rd w sz A n c xs) {k : Nat} (hk : k ≤ n) : Rd w sz A k c (xs.take (k * sz)) := by
  refine ⟨by rw [List.length_take, h.1]; exact Nat.min_eq_left (Nat.mul_le_mul_right _ hk), by have := h.2.1; omega, h.2.2.1, fun hn => ?_⟩
  obtain ⟨ad, rfl, hb, hcell⟩ := h.2.2.2 (by omega)
  exact ⟨ad, rfl, hb, fun j u hu => hcell j u (by rw [List.getElem?_take] at hu; split at hu; exact hu; cases hu)⟩
theorem Rd.of_own {base : Nat} {e : TypeId} (h : w.ownsRow base e sz (.slice A n c) n xs) : Rd w sz A n c xs := by
  refine ⟨h.1, ?_, ?_, fun hn => ?_⟩
  · rcases h.2 with ⟨hv, h0⟩ | ⟨g, cap, cur, hv, _, _, hnc, _⟩
    · simp at hv; omega
    · simp at hv; omega
  · rcases h.2 with ⟨hv, h0⟩ | ⟨g, cap, cur, hv, _, _, hnc, hm, _⟩
    · simp at hv; unfold maxLen; omega
    · simp at hv; omega
  · rcases h.2 with ⟨hv, h0⟩ | ⟨g, cap, cur, hv, _, hh, hnc, hm, _⟩
    · omega
    · injection hv with hA _ hc
      subst hA
      exact ⟨_, rfl, (Array.getElem?_eq_some_iff.1 hh).1, h.cells (g := g) rfl⟩
end

/-- A byte as a value. -/
def bval (l : List UInt8) : List Value := l.map fun c => .int .u8 (c.toNat : Int)
theorem bval_length (l : List UInt8) : (bval l).length = l.length := by simp [bval]
theorem bval_get {l : List UInt8} {k : Nat} (h : k < l.length) : (bval l)[k]? = some (.int .u8 (l[k].toNat : Int)) := by simp [bval, h]
theorem bval_one (l : List UInt8) : ∀ u ∈ bval l, u.oneCell' = true := by
  intro u hu
  obtain ⟨_, _, rfl⟩ := List.mem_map.1 hu
  rfl
theorem bval_append (a b : List UInt8) : bval (a ++ b) = bval a ++ bval b := by simp [bval]
theorem bval_drop (a : List UInt8) (k : Nat) : (bval a).drop k = bval (a.drop k) := by simp [bval]
theorem bval_take (a : List UInt8) (k : Nat) : (bval a).take k = bval (a.take k) := by simp [bval]

/-- A slice of bytes that reads as the list l. -/
def Bs (w : World) (A : Option Addr) (n c : Nat) (l : List UInt8) : Prop := Rd w 1 A n c (bval l)
section
variable {w w' : World} {n c : Nat} {A : Option Addr} {l : List UInt8}
theorem Bs.len (h : Bs w A n c l) : n = l.length := by have := Rd.len h; rwa [bval_length] at this
theorem Bs.max (h : Bs w A n c l) : n ≤ 9223372036854775807 := Rd.max h
theorem Bs.addr (h : Bs w A n c l) (hn : 0 < n) : ∃ ad, A = some ad := Rd.addr h hn
theorem Bs.cell {ad : Addr} (h : Bs w (some ad) n c l) {k : Nat} (hk : k < l.length) : w.cell? (ad.add k) = some (.int .u8 (l[k].toNat : Int)) := Rd.cell h (bval_get hk)
theorem Bs.below (h : Bs w A n c l) (hb : Below w.heap.size w w') : Bs w' A n c l := Rd.below h hb
theorem Bs.drew (h : Bs w A n c l) : Bs w.drew A n c l := h
theorem Bs.drewN (h : Bs w A n c l) (k : Nat) : Bs (w.drewN k) A n c l := h
theorem Bs.alloc (h : Bs w A n c l) (o : Obj) : Bs (w.alloc o) A n c l := Rd.alloc h o
theorem Bs.of_own {base : Nat} {e : TypeId} (h : w.ownsRow base e 1 (.slice A n c) n (bval l)) : Bs w A n c l := Rd.of_own h
end

/-- What a new block of cells reads as. -/
theorem Rd.new (w : World) (e : TypeId) (cs : List Value) (hm : cs.length ≤ maxLen) : Rd (w.alloc (.cells cs.toArray e)) 1 (some ⟨w.heap.size, 0, none⟩) cs.length cs.length cs := by
  refine ⟨by simp, Nat.le_refl _, hm, fun _ => ⟨_, rfl, by simp, fun j u hu => ?_⟩⟩
  have hadd : (⟨w.heap.size, 0, none⟩ : Addr).add j = ⟨w.heap.size, j, none⟩ := by unfold Addr.add; split <;> simp_all
  rw [hadd, cell_of_row _ w.heap.size j cs.toArray e (0, 0) (heap_alloc_new w _)]
  simpa using hu
theorem Rd.newAt (w : World) (e : TypeId) (cs : List Value) (hm : cs.length ≤ maxLen) (g : Nat) (hg : w.heap.size = g) : Rd (w.alloc (.cells cs.toArray e)) 1 (some ⟨g, 0, none⟩) cs.length cs.length cs := by
  subst hg
  exact Rd.new w e cs hm
theorem Rd.grown {w w' : World} {sz n c : Nat} {A : Option Addr} {xs : List Value} {row : Option Nat} (h : Rd w sz A n c xs) (hg : w.grownBy w' row) (hne : ∀ ad, A = some ad → row ≠ some ad.block) : Rd w' sz A n c xs :=
  ⟨h.1, h.2.1, h.2.2.1, fun hn => by
    obtain ⟨ad, e, hb, hc⟩ := h.2.2.2 hn
    refine ⟨ad, e, Nat.lt_of_lt_of_le hb hg.size, fun j u hu => ?_⟩
    rw [World.cell?_of_block (hg.block _ (by rw [block_of_add]; exact hb) (by rw [block_of_add]; exact (hne ad e).symm))]
    exact hc j u hu⟩
theorem Rd.new1 (w : World) (e : TypeId) (v : Value) : Rd (w.alloc (.cells #[v] e)) 1 (some ⟨w.heap.size, 0, none⟩) 1 1 [v] := Rd.new w e [v] (by simp [maxLen])

section
variable {P : Program} (w : World)
theorem run_append_of_nil (base : Nat) (t ty e : TypeId) (i : TypeInfo) (size : Nat) (ht : P.underlying t = some (.slice e)) (hi : P.info? e = some i)
    (v : Value) (n : Nat) (xs : List Value) (hown : w.ownsRow base e size v n xs) (c : Nat) : (Builtin.append_ #[t, t] ty #[v, .slice none 0 c]).run P w = .ok v w := by
  rcases hown.2 with ⟨rfl, rfl⟩ | ⟨g, cap, cur, rfl, _, _, hnc, _⟩
  · simp [Builtin.append_, run_underlying ht, sizeOf, typeInfo, hi, Builtin.lenOf, Builtin.firstCells]
  · simp [Builtin.append_, run_underlying ht, sizeOf, typeInfo, hi, Builtin.lenOf, Builtin.firstCells, hnc, storeCells]

theorem own_form {w : World} {base : Nat} {e : TypeId} {size : Nat} {v : Value} {n : Nat} {xs : List Value} (h : w.ownsRow base e size v n xs) : ∃ A c, v = .slice A n c := by
  rcases h.2 with ⟨rfl, rfl⟩ | ⟨g, cap, cur, rfl, _⟩
  · exact ⟨none, 0, rfl⟩
  · exact ⟨_, _, rfl⟩

theorem run_append_rd (base : Nat) (t ty e : TypeId) (i : TypeInfo) (z : Value) (size bytes : Nat) (ht : P.underlying t = some (.slice e)) (hi : P.info? e = some i) (hz : i.zero = some z)
    (hsize : i.size = size) (hby : i.bytes = bytes) (hzs : z.cells.size = size) (hsz : 0 < size)
    (v : Value) (n : Nat) (xs : List Value) (hown : w.ownsRow base e size v n xs)
    (A : Option Addr) (m c : Nat) (news : List Value) (hr : Rd w size A m c news) (h1 : ∀ u ∈ news, u.oneCell' = true)
    (h63 : n + m ≤ maxLen) (hbytes : (n + m) * bytes ≤ 140737488355328) (hbase : base ≤ w.heap.size) (k : Nat) (hk : n + m = k) (ys : List Value) (hys : xs ++ news = ys) :
    ∃ A' c' w', (Builtin.append_ #[t, t] ty #[v, .slice A m c]).run P w = .ok (.slice A' k c') w' ∧ w'.ownsRow base e size (.slice A' k c') k ys ∧ w.grownBy w' v.ownBlock ∧
      ((Value.slice A' k c').ownBlock = v.ownBlock ∨ (Value.slice A' k c').ownBlock = some w.heap.size) := by
  subst hk hys
  rcases A with _ | ad
  · have hm : m = 0 := by
      rcases Nat.eq_zero_or_pos m with h0 | h0
      · exact h0
      · obtain ⟨ad, h, _⟩ := hr.2.2.2 h0
        cases h
    subst hm
    have hn : news = [] := List.eq_nil_of_length_eq_zero (by simpa using hr.1)
    subst hn
    obtain ⟨A', c', rfl⟩ := own_form hown
    exact ⟨A', c', w, run_append_of_nil w base t ty e i size ht hi _ n xs hown c, by simpa using hown, World.grownBy.refl w _, .inl rfl⟩
  · obtain ⟨v', w', hrun, h2, h3, _, h5⟩ := run_append_own_at (P := P) w base t ty e i z size bytes ht hi hz hsize hby hzs hsz v n xs hown ad m c news hr.1 (fun j u hu => hr.cell hu) h1 h63 hbytes hbase
    obtain ⟨A', c', rfl⟩ := own_form h2
    exact ⟨A', c', w', hrun, h2, h3, h5⟩

theorem wp_append_rd {o : Oper} {a : Act} {K : Act → World → Prop} {Q : Exit → Act → World → Prop} (s x : Operand) (t : TypeId)
    (ho : o.op = .call { callee := .builtin .append, args := #[s, x], argTypes := #[t, t] })
    (base : Nat) (e : TypeId) (i : TypeInfo) (z : Value) (size bytes : Nat) (ht : P.underlying t = some (.slice e)) (hi : P.info? e = some i) (hz : i.zero = some z)
    (hsize : i.size = size) (hby : i.bytes = bytes) (hzs : z.cells.size = size) (hsz : 0 < size)
    (v : Value) (n : Nat) (xs : List Value) (hown : w.ownsRow base e size v n xs) (hs : a.eval s = v)
    (A : Option Addr) (m c : Nat) (news : List Value) (hr : Rd w size A m c news) (hx : a.eval x = .slice A m c) (h1 : ∀ u ∈ news, u.oneCell' = true)
    (h63 : n + m ≤ maxLen) (hbytes : (n + m) * bytes ≤ 140737488355328) (hbase : base ≤ w.heap.size) (k : Nat) (hk : n + m = k) (ys : List Value) (hys : xs ++ news = ys)
    (h : ∀ A' c' w', w'.ownsRow base e size (.slice A' k c') k ys → w.grownBy w' v.ownBlock → ((Value.slice A' k c').ownBlock = v.ownBlock ∨ (Value.slice A' k c').ownBlock = some w.heap.size) →
      K (a.put o.dst (.slice A' k c')) w') : o.wp P a w K Q := by
  obtain ⟨A', c', w', hrun, h2, h3, h4⟩ := run_append_rd (P := P) w base t o.type e i z size bytes ht hi hz hsize hby hzs hsz v n xs hown A m c news hr h1 h63 hbytes hbase k hk ys hys
  unfold Oper.wp execOp
  simp only [ho, resolve, invoke, builtin, Sem.run_bind, Sem.run_pure, Result.andThen_ok, List.map_toArray, List.map_cons, List.map_nil, hs, hx, hrun]
  exact h A' c' w' h2 h3 h4

theorem wpList_append_rd {ops : Array Oper} {rest : List Oper} {o : Oper} {a : Act} {Q : Exit → Act → World → Prop} (hgd : o.guard = none) (s x : Operand) (t : TypeId)
    (ho : o.op = .call { callee := .builtin .append, args := #[s, x], argTypes := #[t, t] })
    (base : Nat) (e : TypeId) (i : TypeInfo) (z : Value) (size bytes : Nat) (ht : P.underlying t = some (.slice e)) (hi : P.info? e = some i) (hz : i.zero = some z)
    (hsize : i.size = size) (hby : i.bytes = bytes) (hzs : z.cells.size = size) (hsz : 0 < size)
    (v : Value) (n : Nat) (xs : List Value) (hown : w.ownsRow base e size v n xs) (hs : a.eval s = v)
    (A : Option Addr) (m c : Nat) (news : List Value) (hr : Rd w size A m c news) (hx : a.eval x = .slice A m c) (h1 : ∀ u ∈ news, u.oneCell' = true)
    (h63 : n + m ≤ maxLen) (hbytes : (n + m) * bytes ≤ 140737488355328) (hbase : base ≤ w.heap.size) (k : Nat) (hk : n + m = k) (ys : List Value) (hys : xs ++ news = ys)
    (h : ∀ A' c' w', w'.ownsRow base e size (.slice A' k c') k ys → w.grownBy w' v.ownBlock → ((Value.slice A' k c').ownBlock = v.ownBlock ∨ (Value.slice A' k c').ownBlock = some w.heap.size) →
      wpList P ops Q rest (a.put o.dst (.slice A' k c')) w') : wpList P ops Q (o :: rest) a w :=
  wpList_plain hgd fun _ hK => wp_append_rd w s x t ho base e i z size bytes ht hi hz hsize hby hzs hsz v n xs hown hs A m c news hr hx h1 h63 hbytes hbase k hk ys hys fun A' c' w' h2 h3 h4 => hK _ _ (h A' c' w' h2 h3 h4)

theorem step_append_rd {ops : Array Oper} {o : Oper} {a : Act} {K : Act → World → Prop} {Q : Exit → Act → World → Prop} {E : Prop} (hgd : o.guard = none) (s x : Operand) (t : TypeId)
    (ho : o.op = .call { callee := .builtin .append, args := #[s, x], argTypes := #[t, t] })
    (base : Nat) (e : TypeId) (i : TypeInfo) (z : Value) (size bytes : Nat) (ht : P.underlying t = some (.slice e)) (hi : P.info? e = some i) (hz : i.zero = some z)
    (hsize : i.size = size) (hby : i.bytes = bytes) (hzs : z.cells.size = size) (hsz : 0 < size)
    (v : Value) (n : Nat) (xs : List Value) (hown : w.ownsRow base e size v n xs) (hs : a.eval s = v)
    (A : Option Addr) (m c : Nat) (news : List Value) (hr : Rd w size A m c news) (hx : a.eval x = .slice A m c) (h1 : ∀ u ∈ news, u.oneCell' = true)
    (h63 : n + m ≤ maxLen) (hbytes : (n + m) * bytes ≤ 140737488355328) (hbase : base ≤ w.heap.size) (k : Nat) (hk : n + m = k) (ys : List Value) (hys : xs ++ news = ys)
    (h : ∀ A' c' w', w'.ownsRow base e size (.slice A' k c') k ys → w.grownBy w' v.ownBlock → ((Value.slice A' k c').ownBlock = v.ownBlock ∨ (Value.slice A' k c').ownBlock = some w.heap.size) →
      K (a.put o.dst (.slice A' k c')) w') : if Region.wanted o (yielded ops a.tmps) = true then Oper.wp P o a w K Q else E := by
  have hw : Region.wanted o (yielded ops a.tmps) = true := by simp [Region.wanted, hgd]
  rw [if_pos hw]
  exact wp_append_rd w s x t ho base e i z size bytes ht hi hz hsize hby hzs hsz v n xs hown hs A m c news hr hx h1 h63 hbytes hbase k hk ys hys h
end

/-- What was below the base is as it was, behind an append to a row of the call's own. -/
theorem below_append {B base : Nat} {a w w' : World} {e : TypeId} {size n : Nat} {v : Value} {xs : List Value} (h : Below B a w) (hown : w.ownsRow base e size v n xs) (hg : w.grownBy w' v.ownBlock) (hB : B ≤ base) (hs : B ≤ w.heap.size) : Below B a w' :=
  h.grown hg hs fun k hk => Nat.le_trans hB (hown.lt k hk).1

/-- What a call that makes a slice of its own leaves: the slice reads as xs, it is the call's own, and nothing that was there has turned. -/
def Owned (w : World) (t : TypeId) (xs : List Value) (e : Ending) (w' : World) : Prop :=
  ∃ A n c, e = .returned (.slice A n c) ∧ w'.ownsRow w.heap.size t 1 (.slice A n c) n xs ∧ Below w.heap.size w w'

/-- What the frame says of a slice of integers that came in. -/
def IsRow (k : IntKind) (w : World) (a : Option Addr) (len cap : Nat) (zs : List Int) : Prop :=
  (a = none ∧ len = 0 ∧ cap = 0 ∧ zs = []) ∨
  ∃ x, a = some x ∧ len ≤ cap ∧ cap ≤ maxLen ∧ zs.length = cap ∧ (∀ i, i < zs.length → w.cell? (x.add i) = some (.int k (zs.getD i 0))) ∧ ∀ n ∈ zs, (Lit.int k n).wf = true
theorem IsRow.rd {k : IntKind} {w : World} {a : Option Addr} {len cap : Nat} {zs : List Int} (h : IsRow k w a len cap zs) :
    Rd w 1 a len cap ((zs.take len).map (.int k)) ∧ ∀ n ∈ zs.take len, (Lit.int k n).wf = true := by
  rcases h with ⟨rfl, rfl, rfl, rfl⟩ | ⟨x, rfl, h1, h2, h3, h4, h5⟩
  · exact ⟨Rd.nil w 1, by simp⟩
  · refine ⟨⟨by simp; omega, h1, h2, fun hn => ⟨x, rfl, ?_, fun j u hu => ?_⟩⟩, fun n hm => h5 n (List.mem_of_mem_take hm)⟩
    · have hc := h4 0 (by omega)
      have := World.block_lt_of_cell? w _ hc
      rwa [block_of_add] at this
    · rw [List.getElem?_map, List.getElem?_take] at hu
      split at hu
      · rename_i hj
        have hjl : j < zs.length := by omega
        rw [List.getElem?_eq_getElem hjl] at hu
        have := h4 j hjl
        rw [this]
        simpa [List.getD, hjl] using hu
      · simp at hu
theorem wf_u8 {n : Int} (h : (Lit.int .u8 n).wf = true) : 0 ≤ n ∧ n ≤ 255 := by simpa [Lit.wf, IntKind.min, IntKind.max, IntKind.signed, IntKind.bits] using h
theorem wf_u64 {n : Int} (h : (Lit.int .u64 n).wf = true) : ∃ m : Nat, n = m ∧ m < 18446744073709551616 := by
  have h2 : 0 ≤ n ∧ n ≤ 18446744073709551615 := by simpa [Lit.wf, IntKind.min, IntKind.max, IntKind.signed, IntKind.bits] using h
  exact ⟨n.toNat, by omega, by omega⟩
theorem wf_u32 {n : Int} (h : (Lit.int .u32 n).wf = true) : ∃ m : Nat, n = m ∧ m < 4294967296 := by
  have h2 : 0 ≤ n ∧ n ≤ 4294967295 := by simpa [Lit.wf, IntKind.min, IntKind.max, IntKind.signed, IntKind.bits] using h
  exact ⟨n.toNat, by omega, by omega⟩
theorem wf_byte {n : Int} (h : (Lit.int .u8 n).wf = true) : ∃ m : Nat, n = m ∧ m < 256 := by have := wf_u8 h; exact ⟨n.toNat, by omega, by omega⟩
theorem wf_u16 {n : Int} (h : (Lit.int .u16 n).wf = true) : ∃ m : Nat, n = m ∧ m < 65536 := by
  have h2 : 0 ≤ n ∧ n ≤ 65535 := by simpa [Lit.wf, IntKind.min, IntKind.max, IntKind.signed, IntKind.bits] using h
  exact ⟨n.toNat, by omega, by omega⟩
theorem wf_i64 {n : Int} (h : (Lit.int .i64 n).wf = true) : -9223372036854775808 ≤ n ∧ n ≤ 9223372036854775807 := by simpa [Lit.wf, IntKind.min, IntKind.max, IntKind.signed, IntKind.bits] using h
theorem wf_i32 {n : Int} (h : (Lit.int .i32 n).wf = true) : -2147483648 ≤ n ∧ n ≤ 2147483647 := by simpa [Lit.wf, IntKind.min, IntKind.max, IntKind.signed, IntKind.bits] using h
theorem bytes_of_ints : ∀ (zs : List Int), (∀ n ∈ zs, (Lit.int .u8 n).wf = true) → ∃ l : List UInt8, zs.map (Value.int .u8) = bval l
  | [], _ => ⟨[], rfl⟩
  | n :: r, h => by
    obtain ⟨l, hl⟩ := bytes_of_ints r (fun x hx => h x (by simp [hx]))
    obtain ⟨m, rfl, hm⟩ := wf_byte (h n (by simp))
    refine ⟨UInt8.ofNat m :: l, ?_⟩
    have e : ((UInt8.ofNat m).toNat : Int) = m := by simp; omega
    simp only [bval, List.map_cons, e]
    rw [hl]; rfl
theorem IsRow.bs {w : World} {a : Option Addr} {len cap : Nat} {zs : List Int} (h : IsRow .u8 w a len cap zs) : ∃ l, Bs w a len cap l := by
  obtain ⟨h1, h2⟩ := h.rd
  obtain ⟨l, hl⟩ := bytes_of_ints _ h2
  exact ⟨l, by unfold Bs; rw [← hl]; exact h1⟩
/-- Numbers as values. -/
def nval (k : IntKind) (l : List Nat) : List Value := l.map fun (c : Nat) => .int k (c : Int)
theorem nats_of_ints {k : IntKind} {B : Nat} (hk : ∀ n : Int, (Lit.int k n).wf = true → ∃ m : Nat, n = m ∧ m < B) : ∀ (zs : List Int), (∀ n ∈ zs, (Lit.int k n).wf = true) → ∃ l : List Nat, zs.map (Value.int k) = nval k l ∧ ∀ m ∈ l, m < B
  | [], _ => ⟨[], rfl, by simp⟩
  | n :: r, h => by
    obtain ⟨l, hl, hb⟩ := nats_of_ints hk r (fun x hx => h x (by simp [hx]))
    obtain ⟨m, rfl, hm⟩ := hk n (h n (by simp))
    refine ⟨m :: l, ?_, ?_⟩
    · simp only [nval, List.map_cons]
      rw [hl]; rfl
    · intro x hx
      rcases List.mem_cons.1 hx with rfl | hx
      · exact hm
      · exact hb x hx
theorem IsRow.nats {k : IntKind} {B : Nat} (hk : ∀ n : Int, (Lit.int k n).wf = true → ∃ m : Nat, n = m ∧ m < B) {w : World} {a : Option Addr} {len cap : Nat} {zs : List Int} (h : IsRow k w a len cap zs) :
    ∃ l : List Nat, Rd w 1 a len cap (nval k l) ∧ ∀ m ∈ l, m < B := by
  obtain ⟨h1, h2⟩ := h.rd
  obtain ⟨l, hl, hb⟩ := nats_of_ints hk _ h2
  exact ⟨l, by rw [← hl]; exact h1, hb⟩

theorem below_drewN {B : Nat} {a w : World} (h : Below B a w) (n : Nat) : Below B a (w.drewN n) := ⟨h.os, h.tape, h.output, h.size, h.block⟩
theorem below_drewN_self (B : Nat) (w : World) (n : Nat) : Below B w (w.drewN n) := below_drewN (Below.refl B w) n
end Go.Proofs.Ytcoilgfjabnoeaa
