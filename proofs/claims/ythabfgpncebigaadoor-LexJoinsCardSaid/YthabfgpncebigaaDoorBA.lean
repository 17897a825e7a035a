/- Small words on memory: a slice that reads as a list of values, a row of the call's own. No program in sight. Strings as lists of bytes: what a walk meets. No program in sight. A world behind a call of which only 'Below' is known: the blocks that were there stay written out, however many blocks come behind. No program in sight. A range over a function: the caller's law, where the iterator may write boxes of its own (T) and asks that a round keeps certain blocks (K). Proved from the base's two laws on a round and on the statement. No program in sight. utf.forms: what the row's list gives of it: twelve numbers, cell by cell. A block of cells known whole: its cells, stores into it, worlds behind. No program in sight. append to a row of bytes of the call's own, all but the lengths paid for. -/
import Derived.WalkKit
import Derived.WalkSpells
import Derived.WalkLawsBesides
import Derived.Maps.AppendAt
import Derived.Deep.AppendLies
import Derived.Deep.Draws
import Derived.Lib.Hide
import Derived.Deep.QuietTactic
import Derived.BigQuiet
import Derived.Deep.DeepFit
import Derived.Deep.LoopGhost
import Derived.Laws.DeepStrings4
import Derived.Laws.Concat
import Derived.Laws.IdiomStrings
import Derived.Lib.QuietBelow
import Derived.RangeFuncNested
import Derived.RangeFuncBound
import Derived.RangeFuncCalls
import Derived.RangeFuncLeaves
import Derived.Shelf.Abstract
import Derived.Shelf.RegionOpen
import Derived.OwnWalkIn
import Derived.TacticsInMore
import Derived.LoopNIn
import Derived.LoopIn
import Derived.Test.YthabfgpncebigaaDoorRows
import Derived.OpenShut
import Derived.Lib.LaidTab
import Derived.Deep.Strs
import Derived.Test.YthabfgpncebigaaDoorChecked

/- Small words on memory: a slice that reads as a list of values, a row of the call's own. No program in sight. -/
namespace Go.Proofs.YthabfgpncebigaaDoor
open Go.RowKit

/-- The slice value with address A, length n, capacity c reads in world w as the cells xs, each element of sz cells. -/
def Rd (w : World) (sz : Nat) (A : Option Addr) (n c : Nat) (xs : List Value) : Prop :=
  xs.length = n * sz ∧ n ≤ c ∧ c ≤ maxLen ∧ (0 < n → ∃ ad, A = some ad ∧ ad.block < w.heap.size ∧ ∀ j u, xs[j]? = some u → w.cell? (ad.add j) = some u)

theorem block_of_add (a : Addr) (n : Nat) : (a.add n).block = a.block := by unfold Addr.add; split <;> rfl
theorem add_of_add (a : Addr) (i j : Nat) : (a.add i).add j = a.add (i + j) := by
  unfold Addr.add
  by_cases hi : i = 0 <;> by_cases hj : j = 0 <;> simp [hi, hj, Nat.add_assoc]

section
variable {w w' : World} {sz n c : Nat} {A : Option Addr} {xs : List Value}
theorem Rd.nil (w : World) (sz : Nat) : Rd w sz none 0 0 [] := ⟨by simp, Nat.le_refl _, Nat.zero_le _, fun h => absurd h (by omega)⟩
theorem Rd.len (h : Rd w 1 A n c xs) : n = xs.length := by have := h.1; omega
theorem Rd.max (h : Rd w sz A n c xs) : n ≤ 9223372036854775807 := by have h1 := h.2.1; have h2 := h.2.2.1; unfold maxLen at h2; omega
theorem Rd.maxc (h : Rd w sz A n c xs) : c ≤ 9223372036854775807 := by have h2 := h.2.2.1; unfold maxLen at h2; omega
theorem Rd.addr (h : Rd w sz A n c xs) (hn : 0 < n) : ∃ ad, A = some ad := by obtain ⟨ad, e, _⟩ := h.2.2.2 hn; exact ⟨ad, e⟩
theorem Rd.cell {ad : Addr} (h : Rd w sz (some ad) n c xs) {k : Nat} {u : Value} (hk : xs[k]? = some u) : w.cell? (ad.add k) = some u := by
  have hlt : k < xs.length := (List.getElem?_eq_some_iff.1 hk).1
  have hn : 0 < n := by
    rcases Nat.eq_zero_or_pos n with h0 | h0
    · have := h.1; rw [h0, Nat.zero_mul] at this; omega
    · exact h0
  obtain ⟨ad', e, _, hc⟩ := h.2.2.2 hn
  cases e
  exact hc k u hk
theorem Rd.keep (h : Rd w sz A n c xs) (hs : w.heap.size ≤ w'.heap.size) (hk : ∀ p : Addr, p.block < w.heap.size → w'.cell? p = w.cell? p) : Rd w' sz A n c xs :=
  ⟨h.1, h.2.1, h.2.2.1, fun hn => by
    obtain ⟨ad, e, hb, hc⟩ := h.2.2.2 hn
    exact ⟨ad, e, by omega, fun j u hu => (hk _ (by rw [block_of_add]; exact hb)).trans (hc j u hu)⟩⟩
theorem Rd.below (h : Rd w sz A n c xs) (hb : Below w.heap.size w w') : Rd w' sz A n c xs := h.keep hb.size fun _ hp => hb.cell hp
theorem Rd.drew (h : Rd w sz A n c xs) : Rd w.drew sz A n c xs := h
theorem Rd.drewN (h : Rd w sz A n c xs) (k : Nat) : Rd (w.drewN k) sz A n c xs := h
theorem Rd.alloc (h : Rd w sz A n c xs) (o : Obj) : Rd (w.alloc o) sz A n c xs := h.below ((Below.refl _ _).alloc (Nat.le_refl _) o)
theorem Rd.cut (h : Rd w sz A n c xs) {k : Nat} (hk : k ≤ n) : Rd w sz (if c = k then A else A.map (·.add (k * sz))) (n - k) (c - k) (xs.drop (k * sz)) := by
  refine ⟨by rw [List.length_drop, h.1, Nat.sub_mul], by have := h.2.1; omega, by have := h.2.2.1; omega, fun hn => ?_⟩
  obtain ⟨ad, rfl, hb, hcell⟩ := h.2.2.2 (by omega)
  rw [if_neg (by have := h.2.1; omega)]
  refine ⟨ad.add (k * sz), rfl, by rw [block_of_add]; exact hb, fun j u hu => ?_⟩
  rw [add_of_add]
  exact hcell _ u (by rw [← hu, List.getElem?_drop])
theorem Rd.upto (h : Rd w sz A n c xs) {k : Nat} (hk : k ≤ n) : Rd w sz A k c (xs.take (k * sz)) := by
  refine ⟨by rw [List.length_take, h.1]; exact Nat.min_eq_left (Nat.mul_le_mul_right _ hk), by have := h.2.1; omega, h.2.2.1, fun hn => ?_⟩
  obtain ⟨ad, rfl, hb, hcell⟩ := h.2.2.2 (by omega)
  exact ⟨ad, rfl, hb, fun j u hu => hcell j u (by rw [List.getElem?_take] at hu; split at hu; exact hu; cases hu)⟩
theorem Rd.of_own {base : Nat} {e : TypeId} (h : w.ownsRow base e sz (.slice A n c) n xs) : Rd w sz A n c xs := by
  refine ⟨h.1, ?_, ?_, fun hn => ?_⟩
  · rcases h.2 with ⟨hv, h0⟩ | ⟨g, cap, cur, hv, _, _, hnc, _⟩
    · simp at hv; omega
    · simp at hv; omega
  · rcases h.2 with ⟨hv, h0⟩ | ⟨g, cap, cur, hv, _, _, hnc, hm, _⟩
    · simp at hv; unfold maxLen; omega
    · simp at hv; omega
  · rcases h.2 with ⟨hv, h0⟩ | ⟨g, cap, cur, hv, _, hh, hnc, hm, _⟩
    · omega
    · injection hv with hA _ hc
      subst hA
      exact ⟨_, rfl, (Array.getElem?_eq_some_iff.1 hh).1, h.cells (g := g) rfl⟩
end

/-- A byte as a value. -/
def bval (l : List UInt8) : List Value := l.map fun c => .int .u8 (c.toNat : Int)
theorem bval_length (l : List UInt8) : (bval l).length = l.length := by simp [bval]
theorem bval_get {l : List UInt8} {k : Nat} (h : k < l.length) : (bval l)[k]? = some (.int .u8 (l[k].toNat : Int)) := by simp [bval, h]
theorem bval_one (l : List UInt8) : ∀ u ∈ bval l, u.oneCell' = true := by
  intro u hu
  obtain ⟨_, _, rfl⟩ := List.mem_map.1 hu
  rfl
theorem bval_append (a b : List UInt8) : bval (a ++ b) = bval a ++ bval b := by simp [bval]
theorem bval_drop (a : List UInt8) (k : Nat) : (bval a).drop k = bval (a.drop k) := by simp [bval]
theorem bval_take (a : List UInt8) (k : Nat) : (bval a).take k = bval (a.take k) := by simp [bval]

/-- A slice of bytes that reads as the list l. -/
def Bs (w : World) (A : Option Addr) (n c : Nat) (l : List UInt8) : Prop := Rd w 1 A n c (bval l)
section
variable {w w' : World} {n c : Nat} {A : Option Addr} {l : List UInt8}
theorem Bs.len (h : Bs w A n c l) : n = l.length := by have := Rd.len h; rwa [bval_length] at this
theorem Bs.max (h : Bs w A n c l) : n ≤ 9223372036854775807 := Rd.max h
theorem Bs.addr (h : Bs w A n c l) (hn : 0 < n) : ∃ ad, A = some ad := Rd.addr h hn
theorem Bs.cell {ad : Addr} (h : Bs w (some ad) n c l) {k : Nat} (hk : k < l.length) : w.cell? (ad.add k) = some (.int .u8 (l[k].toNat : Int)) := Rd.cell h (bval_get hk)
theorem Bs.below (h : Bs w A n c l) (hb : Below w.heap.size w w') : Bs w' A n c l := Rd.below h hb
theorem Bs.drew (h : Bs w A n c l) : Bs w.drew A n c l := h
theorem Bs.drewN (h : Bs w A n c l) (k : Nat) : Bs (w.drewN k) A n c l := h
theorem Bs.alloc (h : Bs w A n c l) (o : Obj) : Bs (w.alloc o) A n c l := Rd.alloc h o
theorem Bs.of_own {base : Nat} {e : TypeId} (h : w.ownsRow base e 1 (.slice A n c) n (bval l)) : Bs w A n c l := Rd.of_own h
end

/-- What a new block of cells reads as. -/
theorem Rd.new (w : World) (e : TypeId) (cs : List Value) (hm : cs.length ≤ maxLen) : Rd (w.alloc (.cells cs.toArray e)) 1 (some ⟨w.heap.size, 0, none⟩) cs.length cs.length cs := by
  refine ⟨by simp, Nat.le_refl _, hm, fun _ => ⟨_, rfl, by simp, fun j u hu => ?_⟩⟩
  have hadd : (⟨w.heap.size, 0, none⟩ : Addr).add j = ⟨w.heap.size, j, none⟩ := by unfold Addr.add; split <;> simp_all
  rw [hadd, cell_of_row _ w.heap.size j cs.toArray e (0, 0) (heap_alloc_new w _)]
  simpa using hu
theorem Rd.newAt (w : World) (e : TypeId) (cs : List Value) (hm : cs.length ≤ maxLen) (g : Nat) (hg : w.heap.size = g) : Rd (w.alloc (.cells cs.toArray e)) 1 (some ⟨g, 0, none⟩) cs.length cs.length cs := by
  subst hg
  exact Rd.new w e cs hm
theorem Rd.grown {w w' : World} {sz n c : Nat} {A : Option Addr} {xs : List Value} {row : Option Nat} (h : Rd w sz A n c xs) (hg : w.grownBy w' row) (hne : ∀ ad, A = some ad → row ≠ some ad.block) : Rd w' sz A n c xs :=
  ⟨h.1, h.2.1, h.2.2.1, fun hn => by
    obtain ⟨ad, e, hb, hc⟩ := h.2.2.2 hn
    refine ⟨ad, e, Nat.lt_of_lt_of_le hb hg.size, fun j u hu => ?_⟩
    rw [World.cell?_of_block (hg.block _ (by rw [block_of_add]; exact hb) (by rw [block_of_add]; exact (hne ad e).symm))]
    exact hc j u hu⟩
theorem Rd.new1 (w : World) (e : TypeId) (v : Value) : Rd (w.alloc (.cells #[v] e)) 1 (some ⟨w.heap.size, 0, none⟩) 1 1 [v] := Rd.new w e [v] (by simp [maxLen])

section
variable {P : Program} (w : World)
theorem run_append_of_nil (base : Nat) (t ty e : TypeId) (i : TypeInfo) (size : Nat) (ht : P.underlying t = some (.slice e)) (hi : P.info? e = some i)
    (v : Value) (n : Nat) (xs : List Value) (hown : w.ownsRow base e size v n xs) (c : Nat) : (Builtin.append_ #[t, t] ty #[v, .slice none 0 c]).run P w = .ok v w := by
  rcases hown.2 with ⟨rfl, rfl⟩ | ⟨g, cap, cur, rfl, _, _, hnc, _⟩
  · simp [Builtin.append_, run_underlying ht, sizeOf, typeInfo, hi, Builtin.lenOf, Builtin.firstCells]
  · simp [Builtin.append_, run_underlying ht, sizeOf, typeInfo, hi, Builtin.lenOf, Builtin.firstCells, hnc, storeCells]

theorem own_form {w : World} {base : Nat} {e : TypeId} {size : Nat} {v : Value} {n : Nat} {xs : List Value} (h : w.ownsRow base e size v n xs) : ∃ A c, v = .slice A n c := by
  rcases h.2 with ⟨rfl, rfl⟩ | ⟨g, cap, cur, rfl, _⟩
  · exact ⟨none, 0, rfl⟩
  · exact ⟨_, _, rfl⟩

theorem run_append_rd (base : Nat) (t ty e : TypeId) (i : TypeInfo) (z : Value) (size bytes : Nat) (ht : P.underlying t = some (.slice e)) (hi : P.info? e = some i) (hz : i.zero = some z)
    (hsize : i.size = size) (hby : i.bytes = bytes) (hzs : z.cells.size = size) (hsz : 0 < size)
    (v : Value) (n : Nat) (xs : List Value) (hown : w.ownsRow base e size v n xs)
    (A : Option Addr) (m c : Nat) (news : List Value) (hr : Rd w size A m c news) (h1 : ∀ u ∈ news, u.oneCell' = true)
    (h63 : n + m ≤ maxLen) (hbytes : (n + m) * bytes ≤ 140737488355328) (hbase : base ≤ w.heap.size) (k : Nat) (hk : n + m = k) (ys : List Value) (hys : xs ++ news = ys) :
    ∃ A' c' w', (Builtin.append_ #[t, t] ty #[v, .slice A m c]).run P w = .ok (.slice A' k c') w' ∧ w'.ownsRow base e size (.slice A' k c') k ys ∧ w.grownBy w' v.ownBlock ∧
      ((Value.slice A' k c').ownBlock = v.ownBlock ∨ (Value.slice A' k c').ownBlock = some w.heap.size) := by
  subst hk hys
  rcases A with _ | ad
  · have hm : m = 0 := by
      rcases Nat.eq_zero_or_pos m with h0 | h0
      · exact h0
      · obtain ⟨ad, h, _⟩ := hr.2.2.2 h0
        cases h
    subst hm
    have hn : news = [] := List.eq_nil_of_length_eq_zero (by simpa using hr.1)
    subst hn
    obtain ⟨A', c', rfl⟩ := own_form hown
    exact ⟨A', c', w, run_append_of_nil w base t ty e i size ht hi _ n xs hown c, by simpa using hown, World.grownBy.refl w _, .inl rfl⟩
  · obtain ⟨v', w', hrun, h2, h3, _, h5⟩ := run_append_own_at (P := P) w base t ty e i z size bytes ht hi hz hsize hby hzs hsz v n xs hown ad m c news hr.1 (fun j u hu => hr.cell hu) h1 h63 hbytes hbase
    obtain ⟨A', c', rfl⟩ := own_form h2
    exact ⟨A', c', w', hrun, h2, h3, h5⟩

theorem wp_append_rd {o : Oper} {a : Act} {K : Act → World → Prop} {Q : Exit → Act → World → Prop} (s x : Operand) (t : TypeId)
    (ho : o.op = .call { callee := .builtin .append, args := #[s, x], argTypes := #[t, t] })
    (base : Nat) (e : TypeId) (i : TypeInfo) (z : Value) (size bytes : Nat) (ht : P.underlying t = some (.slice e)) (hi : P.info? e = some i) (hz : i.zero = some z)
    (hsize : i.size = size) (hby : i.bytes = bytes) (hzs : z.cells.size = size) (hsz : 0 < size)
    (v : Value) (n : Nat) (xs : List Value) (hown : w.ownsRow base e size v n xs) (hs : a.eval s = v)
    (A : Option Addr) (m c : Nat) (news : List Value) (hr : Rd w size A m c news) (hx : a.eval x = .slice A m c) (h1 : ∀ u ∈ news, u.oneCell' = true)
    (h63 : n + m ≤ maxLen) (hbytes : (n + m) * bytes ≤ 140737488355328) (hbase : base ≤ w.heap.size) (k : Nat) (hk : n + m = k) (ys : List Value) (hys : xs ++ news = ys)
    (h : ∀ A' c' w', w'.ownsRow base e size (.slice A' k c') k ys → w.grownBy w' v.ownBlock → ((Value.slice A' k c').ownBlock = v.ownBlock ∨ (Value.slice A' k c').ownBlock = some w.heap.size) →
      K (a.put o.dst (.slice A' k c')) w') : o.wp P a w K Q := by
  obtain ⟨A', c', w', hrun, h2, h3, h4⟩ := run_append_rd (P := P) w base t o.type e i z size bytes ht hi hz hsize hby hzs hsz v n xs hown A m c news hr h1 h63 hbytes hbase k hk ys hys
  unfold Oper.wp execOp
  simp only [ho, resolve, invoke, builtin, Sem.run_bind, Sem.run_pure, Result.andThen_ok, List.map_toArray, List.map_cons, List.map_nil, hs, hx, hrun]
  exact h A' c' w' h2 h3 h4

theorem wpList_append_rd {ops : Array Oper} {rest : List Oper} {o : Oper} {a : Act} {Q : Exit → Act → World → Prop} (hgd : o.guard = none) (s x : Operand) (t : TypeId)
    (ho : o.op = .call { callee := .builtin .append, args := #[s, x], argTypes := #[t, t] })
    (base : Nat) (e : TypeId) (i : TypeInfo) (z : Value) (size bytes : Nat) (ht : P.underlying t = some (.slice e)) (hi : P.info? e = some i) (hz : i.zero = some z)
    (hsize : i.size = size) (hby : i.bytes = bytes) (hzs : z.cells.size = size) (hsz : 0 < size)
    (v : Value) (n : Nat) (xs : List Value) (hown : w.ownsRow base e size v n xs) (hs : a.eval s = v)
    (A : Option Addr) (m c : Nat) (news : List Value) (hr : Rd w size A m c news) (hx : a.eval x = .slice A m c) (h1 : ∀ u ∈ news, u.oneCell' = true)
    (h63 : n + m ≤ maxLen) (hbytes : (n + m) * bytes ≤ 140737488355328) (hbase : base ≤ w.heap.size) (k : Nat) (hk : n + m = k) (ys : List Value) (hys : xs ++ news = ys)
    (h : ∀ A' c' w', w'.ownsRow base e size (.slice A' k c') k ys → w.grownBy w' v.ownBlock → ((Value.slice A' k c').ownBlock = v.ownBlock ∨ (Value.slice A' k c').ownBlock = some w.heap.size) →
      wpList P ops Q rest (a.put o.dst (.slice A' k c')) w') : wpList P ops Q (o :: rest) a w :=
  wpList_plain hgd fun _ hK => wp_append_rd w s x t ho base e i z size bytes ht hi hz hsize hby hzs hsz v n xs hown hs A m c news hr hx h1 h63 hbytes hbase k hk ys hys fun A' c' w' h2 h3 h4 => hK _ _ (h A' c' w' h2 h3 h4)

theorem step_append_rd {ops : Array Oper} {o : Oper} {a : Act} {K : Act → World → Prop} {Q : Exit → Act → World → Prop} {E : Prop} (hgd : o.guard = none) (s x : Operand) (t : TypeId)
    (ho : o.op = .call { callee := .builtin .append, args := #[s, x], argTypes := #[t, t] })
    (base : Nat) (e : TypeId) (i : TypeInfo) (z : Value) (size bytes : Nat) (ht : P.underlying t = some (.slice e)) (hi : P.info? e = some i) (hz : i.zero = some z)
    (hsize : i.size = size) (hby : i.bytes = bytes) (hzs : z.cells.size = size) (hsz : 0 < size)
    (v : Value) (n : Nat) (xs : List Value) (hown : w.ownsRow base e size v n xs) (hs : a.eval s = v)
    (A : Option Addr) (m c : Nat) (news : List Value) (hr : Rd w size A m c news) (hx : a.eval x = .slice A m c) (h1 : ∀ u ∈ news, u.oneCell' = true)
    (h63 : n + m ≤ maxLen) (hbytes : (n + m) * bytes ≤ 140737488355328) (hbase : base ≤ w.heap.size) (k : Nat) (hk : n + m = k) (ys : List Value) (hys : xs ++ news = ys)
    (h : ∀ A' c' w', w'.ownsRow base e size (.slice A' k c') k ys → w.grownBy w' v.ownBlock → ((Value.slice A' k c').ownBlock = v.ownBlock ∨ (Value.slice A' k c').ownBlock = some w.heap.size) →
      K (a.put o.dst (.slice A' k c')) w') : if Region.wanted o (yielded ops a.tmps) = true then Oper.wp P o a w K Q else E := by
  have hw : Region.wanted o (yielded ops a.tmps) = true := by simp [Region.wanted, hgd]
  rw [if_pos hw]
  exact wp_append_rd w s x t ho base e i z size bytes ht hi hz hsize hby hzs hsz v n xs hown hs A m c news hr hx h1 h63 hbytes hbase k hk ys hys h
end

/-- What was below the base is as it was, behind an append to a row of the call's own. -/
theorem below_append {B base : Nat} {a w w' : World} {e : TypeId} {size n : Nat} {v : Value} {xs : List Value} (h : Below B a w) (hown : w.ownsRow base e size v n xs) (hg : w.grownBy w' v.ownBlock) (hB : B ≤ base) (hs : B ≤ w.heap.size) : Below B a w' :=
  h.grown hg hs fun k hk => Nat.le_trans hB (hown.lt k hk).1

/-- What a call that makes a slice of its own leaves: the slice reads as xs, it is the call's own, and nothing that was there has turned. -/
def Owned (w : World) (t : TypeId) (xs : List Value) (e : Ending) (w' : World) : Prop :=
  ∃ A n c, e = .returned (.slice A n c) ∧ w'.ownsRow w.heap.size t 1 (.slice A n c) n xs ∧ Below w.heap.size w w'

/-- What the frame says of a slice of integers that came in. -/
def IsRow (k : IntKind) (w : World) (a : Option Addr) (len cap : Nat) (zs : List Int) : Prop :=
  (a = none ∧ len = 0 ∧ cap = 0 ∧ zs = []) ∨
  ∃ x, a = some x ∧ len ≤ cap ∧ cap ≤ maxLen ∧ zs.length = cap ∧ (∀ i, i < zs.length → w.cell? (x.add i) = some (.int k (zs.getD i 0))) ∧ ∀ n ∈ zs, (Lit.int k n).wf = true
theorem IsRow.rd {k : IntKind} {w : World} {a : Option Addr} {len cap : Nat} {zs : List Int} (h : IsRow k w a len cap zs) :
    Rd w 1 a len cap ((zs.take len).map (.int k)) ∧ ∀ n ∈ zs.take len, (Lit.int k n).wf = true := by
  rcases h with ⟨rfl, rfl, rfl, rfl⟩ | ⟨x, rfl, h1, h2, h3, h4, h5⟩
  · exact ⟨Rd.nil w 1, by simp⟩
  · refine ⟨⟨by simp; omega, h1, h2, fun hn => ⟨x, rfl, ?_, fun j u hu => ?_⟩⟩, fun n hm => h5 n (List.mem_of_mem_take hm)⟩
    · have hc := h4 0 (by omega)
      have := World.block_lt_of_cell? w _ hc
      rwa [block_of_add] at this
    · rw [List.getElem?_map, List.getElem?_take] at hu
      split at hu
      · rename_i hj
        have hjl : j < zs.length := by omega
        rw [List.getElem?_eq_getElem hjl] at hu
        have := h4 j hjl
        rw [this]
        simpa [List.getD, hjl] using hu
      · simp at hu
theorem wf_u8 {n : Int} (h : (Lit.int .u8 n).wf = true) : 0 ≤ n ∧ n ≤ 255 := by simpa [Lit.wf, IntKind.min, IntKind.max, IntKind.signed, IntKind.bits] using h
theorem wf_u64 {n : Int} (h : (Lit.int .u64 n).wf = true) : ∃ m : Nat, n = m ∧ m < 18446744073709551616 := by
  have h2 : 0 ≤ n ∧ n ≤ 18446744073709551615 := by simpa [Lit.wf, IntKind.min, IntKind.max, IntKind.signed, IntKind.bits] using h
  exact ⟨n.toNat, by omega, by omega⟩
theorem wf_u32 {n : Int} (h : (Lit.int .u32 n).wf = true) : ∃ m : Nat, n = m ∧ m < 4294967296 := by
  have h2 : 0 ≤ n ∧ n ≤ 4294967295 := by simpa [Lit.wf, IntKind.min, IntKind.max, IntKind.signed, IntKind.bits] using h
  exact ⟨n.toNat, by omega, by omega⟩
theorem wf_byte {n : Int} (h : (Lit.int .u8 n).wf = true) : ∃ m : Nat, n = m ∧ m < 256 := by have := wf_u8 h; exact ⟨n.toNat, by omega, by omega⟩
theorem wf_u16 {n : Int} (h : (Lit.int .u16 n).wf = true) : ∃ m : Nat, n = m ∧ m < 65536 := by
  have h2 : 0 ≤ n ∧ n ≤ 65535 := by simpa [Lit.wf, IntKind.min, IntKind.max, IntKind.signed, IntKind.bits] using h
  exact ⟨n.toNat, by omega, by omega⟩
theorem wf_i64 {n : Int} (h : (Lit.int .i64 n).wf = true) : -9223372036854775808 ≤ n ∧ n ≤ 9223372036854775807 := by simpa [Lit.wf, IntKind.min, IntKind.max, IntKind.signed, IntKind.bits] using h
theorem wf_i32 {n : Int} (h : (Lit.int .i32 n).wf = true) : -2147483648 ≤ n ∧ n ≤ 2147483647 := by simpa [Lit.wf, IntKind.min, IntKind.max, IntKind.signed, IntKind.bits] using h
theorem bytes_of_ints : ∀ (zs : List Int), (∀ n ∈ zs, (Lit.int .u8 n).wf = true) → ∃ l : List UInt8, zs.map (Value.int .u8) = bval l
  | [], _ => ⟨[], rfl⟩
  | n :: r, h => by
    obtain ⟨l, hl⟩ := bytes_of_ints r (fun x hx => h x (by simp [hx]))
    obtain ⟨m, rfl, hm⟩ := wf_byte (h n (by simp))
    refine ⟨UInt8.ofNat m :: l, ?_⟩
    have e : ((UInt8.ofNat m).toNat : Int) = m := by simp; omega
    simp only [bval, List.map_cons, e]
    rw [hl]; rfl
theorem IsRow.bs {w : World} {a : Option Addr} {len cap : Nat} {zs : List Int} (h : IsRow .u8 w a len cap zs) : ∃ l, Bs w a len cap l := by
  obtain ⟨h1, h2⟩ := h.rd
  obtain ⟨l, hl⟩ := bytes_of_ints _ h2
  exact ⟨l, by unfold Bs; rw [← hl]; exact h1⟩
/-- Numbers as values. -/
def nval (k : IntKind) (l : List Nat) : List Value := l.map fun (c : Nat) => .int k (c : Int)
theorem nats_of_ints {k : IntKind} {B : Nat} (hk : ∀ n : Int, (Lit.int k n).wf = true → ∃ m : Nat, n = m ∧ m < B) : ∀ (zs : List Int), (∀ n ∈ zs, (Lit.int k n).wf = true) → ∃ l : List Nat, zs.map (Value.int k) = nval k l ∧ ∀ m ∈ l, m < B
  | [], _ => ⟨[], rfl, by simp⟩
  | n :: r, h => by
    obtain ⟨l, hl, hb⟩ := nats_of_ints hk r (fun x hx => h x (by simp [hx]))
    obtain ⟨m, rfl, hm⟩ := hk n (h n (by simp))
    refine ⟨m :: l, ?_, ?_⟩
    · simp only [nval, List.map_cons]
      rw [hl]; rfl
    · intro x hx
      rcases List.mem_cons.1 hx with rfl | hx
      · exact hm
      · exact hb x hx
theorem IsRow.nats {k : IntKind} {B : Nat} (hk : ∀ n : Int, (Lit.int k n).wf = true → ∃ m : Nat, n = m ∧ m < B) {w : World} {a : Option Addr} {len cap : Nat} {zs : List Int} (h : IsRow k w a len cap zs) :
    ∃ l : List Nat, Rd w 1 a len cap (nval k l) ∧ ∀ m ∈ l, m < B := by
  obtain ⟨h1, h2⟩ := h.rd
  obtain ⟨l, hl, hb⟩ := nats_of_ints hk _ h2
  exact ⟨l, by rw [← hl]; exact h1, hb⟩

theorem below_drewN {B : Nat} {a w : World} (h : Below B a w) (n : Nat) : Below B a (w.drewN n) := ⟨h.os, h.tape, h.output, h.size, h.block⟩
theorem below_drewN_self (B : Nat) (w : World) (n : Nat) : Below B w (w.drewN n) := below_drewN (Below.refl B w) n
end Go.Proofs.YthabfgpncebigaaDoor

/- Strings as lists of bytes: what a walk meets. No program in sight. -/
namespace Go.Proofs.YthabfgpncebigaaDoor
open Go.RowKit

/-- The string of these bytes. -/
def str (l : List UInt8) : ByteArray := ⟨l.toArray⟩
/-- The byte at a place. -/
def nth (l : List UInt8) (i : Nat) : Int := ((l.getD i 0).toNat : Int)
theorem nth_eq {l : List UInt8} {i : Nat} (h : i < l.length) : nth l i = (l[i].toNat : Int) := by unfold nth; rw [List.getD_eq_getElem?_getD, List.getElem?_eq_getElem h]; rfl
theorem str_data (s : ByteArray) : s = str s.data.toList := by cases s; simp [str]
theorem str_size (l : List UInt8) : (str l).size = l.length := by simp [str, ByteArray.size]
theorem str_toList (l : List UInt8) : (str l).toList = l := by unfold str; rw [ByteArray.toList_mk]
theorem str_getElem (l : List UInt8) (i : Nat) (h : i < (str l).size) : (str l)[i] = l[i]'(by rwa [str_size] at h) := by
  simp only [str]; rfl
theorem str_extract (l : List UInt8) (a b : Nat) : (str l).extract a b = str ((l.drop a).take (b - a)) := by unfold str; exact ByteArray.extract_mk l a b
theorem str_append (a b : List UInt8) : str a ++ str b = str (a ++ b) := by unfold str; rw [ByteArray.mk_append_mk]

section
variable {P : Program} (w : World)
theorem run_len_str (t ty : TypeId) (l : List UInt8) (h : P.underlying t = some .string) : (Builtin.len_ #[t] ty #[.string (str l)]).run P w = .ok (goInt l.length) w := by
  rw [run_len_string w t ty _ h, str_size]
theorem run_index_str (t : TypeId) (l : List UInt8) (k : IntKind) (i : Int) (h : P.underlying t = some .string) :
    (Instr.index t (.string (str l)) (.int k i)).run P w =
      if 0 ≤ i ∧ i < l.length then .ok (.int .u8 (nth l i.toNat)) w else (boundsPanic k i l.length .index).run P w := by
  rw [run_index_string w t _ k i h]
  by_cases hi : 0 ≤ i ∧ i < l.length
  · rw [dif_pos (by rwa [str_size]), if_pos hi, str_getElem, nth_eq (by omega)]
  · rw [dif_neg (by rwa [str_size]), if_neg hi, str_size]
theorem run_slice_str_from (t : TypeId) (l : List UInt8) (k : IntKind) (i : Int) (h : P.underlying t = some .string) :
    (Instr.slice t (.string (str l)) (some (.int k i)) none none).run P w =
      if 0 ≤ i ∧ i ≤ (l.length : Int) then .ok (.string (str (l.drop i.toNat))) w else ((boundsPanic k i l.length .sliceB : Sem Nat).run P w).andThen fun a w' => .ok (.string ((str l).extract a l.length)) w' := by
  rw [run_slice_string_from_if w t _ k i h, str_size, str_extract, List.take_of_length_le (by simp)]
theorem run_slice_str_to (t : TypeId) (l : List UInt8) (k : IntKind) (j : Int) (h : P.underlying t = some .string) :
    (Instr.slice t (.string (str l)) none (some (.int k j)) none).run P w =
      if 0 ≤ j ∧ j ≤ (l.length : Int) then .ok (.string (str (l.take j.toNat))) w else ((boundsPanic k j l.length .sliceAlen : Sem Nat).run P w).andThen fun a w' => .ok (.string ((str l).extract 0 a)) w' := by
  rw [run_slice_string_to_if w t _ k j h, str_size, str_extract, List.drop_zero, Nat.sub_zero]
theorem run_slice_str (t : TypeId) (l : List UInt8) (k k' : IntKind) (i j : Int) (h : P.underlying t = some .string) (h0 : 0 ≤ i ∧ i ≤ j ∧ j ≤ l.length) :
    (Instr.slice t (.string (str l)) (some (.int k i)) (some (.int k' j)) none).run P w = .ok (.string (str ((l.drop i.toNat).take (j.toNat - i.toNat)))) w := by
  rw [run_slice_string w t _ k k' i j h h0.1 h0.2.1 (by rw [str_size]; exact h0.2.2), str_extract]
theorem run_add_str (a b : List UInt8) (h : a.length + b.length ≤ 9223372036854775807) : (Op.stringOp .add (str a) (str b)).run P w = .ok (.string (str (a ++ b))) w := by
  rw [run_string_add_sum w _ _ (by rw [str_size, str_size]; exact h), str_append]
theorem run_convert_bs (src dst e : TypeId) (hs : P.underlying src = some (.slice e)) (he : P.underlying e = some (.int .u8)) (hd : P.underlying dst = some .string)
    {A : Option Addr} {n c : Nat} {l : List UInt8} (hb : Bs w A n c l) : (convert src dst (.slice A n c)).run P w = .ok (.string (str l)) w := by
  have hn := hb.len
  rcases Nat.eq_zero_or_pos n with h0 | h0
  · have hl : l = [] := List.eq_nil_of_length_eq_zero (by omega)
    subst hl h0
    cases A with
    | none =>
      have := run_convert_bytes_nil (P := P) w src e hs he 0 c dst hd
      rw [this]; rfl
    | some ad =>
      exact run_convert_bytes_back w src dst e ad c [] hs he hd (fun j hj => by simp at hj)
  · obtain ⟨ad, rfl⟩ := hb.addr h0
    rw [hn]
    exact run_convert_bytes_back w src dst e ad c l hs he hd (fun j hj => hb.cell hj)
end
theorem eql_str (t : TypeId) (a b : List UInt8) : binOp .eql t (.string (str a)) (.string (str b)) = pure (.bool (a == b)) := by rw [binOp_string_eql, str_toList, str_toList]
theorem neq_str (t : TypeId) (a b : List UInt8) : binOp .neq t (.string (str a)) (.string (str b)) = pure (.bool !(a == b)) := by rw [binOp_string_neq, str_toList, str_toList]
theorem lss_str (t : TypeId) (a b : List UInt8) : binOp .lss t (.string (str a)) (.string (str b)) = pure (.bool (Op.bytesLess a b)) := by rw [binOp_string_lss, str_toList, str_toList]
attribute [go_sem high] run_len_str run_index_str run_slice_str_from run_slice_str_to run_slice_str eql_str neq_str lss_str
attribute [go_sem] str_toList str_size
end Go.Proofs.YthabfgpncebigaaDoor

/- A world behind a call of which only 'Below' is known: the blocks that were there stay written out, however many blocks come behind. No program in sight. -/
namespace Go.Proofs.YthabfgpncebigaaDoor
open Go.RowKit

/-- w with another count of draws, and blocks behind it. -/
def later (w : World) (d : Nat) (os : Array Obj) : World := { w with heap := w.heap ++ os, drawn := d }
/-- How many blocks a world has, reckoned by its form. -/
class Sz (w : World) (n : outParam Nat) : Prop where
  eq : w.heap.size = n
/-- Block n is there, by the world's form. -/
class Lt (n : Nat) (w : World) : Prop where
  lt : n < w.heap.size
theorem later_block (w : World) (d : Nat) (os : Array Obj) {n : Nat} (h : n < w.heap.size) : (later w d os).heap[n]? = w.heap[n]? := by
  simp [later, Array.getElem?_append, h]
@[go_sem, simp] theorem later_size (w : World) (d : Nat) (os : Array Obj) : (later w d os).heap.size = w.heap.size + os.size := by simp [later]
section
variable {w : World} {n d : Nat} {os : Array Obj} {a : Addr} {v : Value} {o : Obj}
instance (priority := low) sz_base : Sz w w.heap.size := ⟨rfl⟩
instance sz_alloc [h : Sz w n] : Sz (w.alloc o) (n + 1) := ⟨by simp [h.eq]⟩
instance sz_later [h : Sz w n] : Sz (later w d os) (n + os.size) := ⟨by simp [h.eq]⟩
instance sz_set [h : Sz w n] : Sz (w.setCell a v) n := ⟨by simp [h.eq]⟩
instance sz_drew [h : Sz w n] : Sz w.drew n := ⟨h.eq⟩
instance lt_new [h : Sz w n] : Lt n (w.alloc o) := ⟨by simp [h.eq]⟩
instance lt_alloc [h : Lt n w] : Lt n (w.alloc o) := ⟨by have := h.lt; simp; omega⟩
instance lt_later [h : Lt n w] : Lt n (later w d os) := ⟨by have := h.lt; simp; omega⟩
instance lt_set [h : Lt n w] : Lt n (w.setCell a v) := ⟨by simpa using h.lt⟩
instance lt_drew [h : Lt n w] : Lt n w.drew := ⟨h.lt⟩
end
section
variable (w : World) (d : Nat) (os : Array Obj) (n i : Nat) (o : Obj) (v : Value)
@[go_sem] theorem later_cell [h : Lt n w] : (later w d os).cell? ⟨n, i, none⟩ = w.cell? ⟨n, i, none⟩ := World.cell?_of_block (later_block w d os h.lt)
@[go_sem] theorem later_frozen [h : Lt n w] : (later w d os).frozen? ⟨n, i, none⟩ = w.frozen? ⟨n, i, none⟩ := World.frozen?_of_block (later_block w d os h.lt)
@[go_sem] theorem later_setCell [h : Lt n w] : (later w d os).setCell ⟨n, i, none⟩ v = later (w.setCell ⟨n, i, none⟩ v) d os := by
  have h := h.lt
  unfold later World.setCell
  congr 1
  apply Array.ext
  · simp
  · intro j h1 h2
    simp only [Array.getElem_modify, Array.getElem_append]
    by_cases hj : j < w.heap.size
    · simp [hj]
    · have : n ≠ j := by omega
      simp [hj, this]
@[go_sem] theorem later_drew : (later w d os).drew = later w (d + 1) os := rfl
@[go_sem] theorem lt_cell [h : Lt n w] : (w.alloc o).cell? ⟨n, i, none⟩ = w.cell? ⟨n, i, none⟩ := World.cell?_alloc_past o n i h.lt
@[go_sem] theorem lt_frozen [h : Lt n w] : (w.alloc o).frozen? ⟨n, i, none⟩ = w.frozen? ⟨n, i, none⟩ := World.frozen?_alloc_past o n i h.lt
@[go_sem] theorem lt_setCell [h : Lt n w] : (w.alloc o).setCell ⟨n, i, none⟩ v = (w.setCell ⟨n, i, none⟩ v).alloc o := World.setCell_alloc_past o n i v h.lt
@[go_sem] theorem sz_cell (c : Array Value) (t : TypeId) [h : Sz w n] : (w.alloc (.cells c t)).cell? ⟨n, i, none⟩ = c[i]? := World.cell?_alloc_at c t n i h.eq.symm
@[go_sem] theorem sz_frozen (c : Array Value) (t : TypeId) [h : Sz w n] : (w.alloc (.cells c t)).frozen? ⟨n, i, none⟩ = false := World.frozen?_alloc_at c t n i h.eq.symm
@[go_sem] theorem sz_setCell (c : Array Value) (t : TypeId) [h : Sz w n] : (w.alloc (.cells c t)).setCell ⟨n, i, none⟩ v = w.alloc (.cells (c.setIfInBounds i v) t) := World.setCell_alloc_at c t n i v h.eq.symm
theorem below_later : Below w.heap.size w (later w d os) := ⟨rfl, rfl, rfl, by simp, fun _ h => later_block w d os h⟩
end
theorem later_of_below {w w' : World} (h : Below w.heap.size w w') : ∃ d os, w' = later w d os := by
  obtain ⟨p, rfl⟩ := regrown_of_below h
  exact ⟨p.d, p.os, rfl⟩
/-- What was below stays below. -/
theorem below_later' {B : Nat} {a w : World} (h : Below B a w) (hB : B ≤ w.heap.size) (d : Nat) (os : Array Obj) : Below B a (later w d os) := h.trans ((below_later w d os).mono hB)
end Go.Proofs.YthabfgpncebigaaDoor

/- A range over a function: the caller's law, where the iterator may write boxes of its own (T) and asks that a round keeps certain blocks (K). Proved from the base's two laws on a round and on the statement. No program in sight. -/
namespace Go.Proofs.YthabfgpncebigaaDoor
open Go.RowKit

/-- B is A with new blocks, and writes to blocks of T alone. -/
structure Ext (T : Nat → Prop) (A B : World) : Prop where
  os : B.os = A.os
  tape : B.tape = A.tape
  output : B.output = A.output
  size : A.heap.size ≤ B.heap.size
  block : ∀ k, k < A.heap.size → ¬ T k → B.heap[k]? = A.heap[k]?

theorem Ext.refl (T : Nat → Prop) (A : World) : Ext T A A := ⟨rfl, rfl, rfl, Nat.le_refl _, fun _ _ _ => rfl⟩
theorem Ext.trans {T : Nat → Prop} {A B C : World} (h : Ext T A B) (k : Ext T B C) : Ext T A C :=
  ⟨k.os.trans h.os, k.tape.trans h.tape, k.output.trans h.output, Nat.le_trans h.size k.size, fun i hi ht => (k.block i (Nat.lt_of_lt_of_le hi h.size) ht).trans (h.block i hi ht)⟩
theorem Ext.of_below {T : Nat → Prop} {A B : World} (h : Below A.heap.size A B) : Ext T A B := ⟨h.os, h.tape, h.output, h.size, fun k hk _ => h.block k hk⟩
theorem Ext.of_grown {T : Nat → Prop} {A B : World} {row : Option Nat} (h : A.grownBy B row) (hr : ∀ r, row = some r → T r) : Ext T A B :=
  ⟨h.os, h.tape, h.output, h.size, fun k hk ht => h.block k hk (fun e => ht (hr k e.symm))⟩
theorem Ext.alloc {T : Nat → Prop} {A B : World} (h : Ext T A B) (o : Obj) : Ext T A (B.alloc o) := h.trans (.of_below ((Below.refl _ _).alloc (Nat.le_refl _) o))
theorem Ext.drew {T : Nat → Prop} {A B : World} (h : Ext T A B) : Ext T A B.drew := ⟨h.os, h.tape, h.output, h.size, h.block⟩
theorem Ext.setCell {T : Nat → Prop} {A B : World} (h : Ext T A B) {p : Addr} (hp : T p.block) (v : Value) : Ext T A (B.setCell p v) :=
  h.trans ⟨rfl, rfl, rfl, by simp [World.setCell], fun k _ ht => Below.heap_setCell _ _ _ _ (fun e => ht (e ▸ hp))⟩

theorem wpListIn_append_rd {F : Fence} {nF : Nat} {P : Program} (w : World) {ops : Array Oper} {rest : List Oper} {o : Oper} {a : Act} {Q : Exit → Act → World → Prop} (hgd : o.guard = none) (s x : Operand) (t : TypeId)
    (ho : o.op = .call { callee := .builtin .append, args := #[s, x], argTypes := #[t, t] })
    (base : Nat) (e : TypeId) (i : TypeInfo) (z : Value) (size bytes : Nat) (ht : P.underlying t = some (.slice e)) (hi : P.info? e = some i) (hz : i.zero = some z)
    (hsize : i.size = size) (hby : i.bytes = bytes) (hzs : z.cells.size = size) (hsz : 0 < size)
    (v : Value) (n : Nat) (xs : List Value) (hown : w.ownsRow base e size v n xs) (hs : a.eval s = v)
    (A : Option Addr) (m c : Nat) (news : List Value) (hr : Rd w size A m c news) (hx : a.eval x = .slice A m c) (h1 : ∀ u ∈ news, u.oneCell' = true)
    (h63 : n + m ≤ maxLen) (hbytes : (n + m) * bytes ≤ 140737488355328) (hbase : base ≤ w.heap.size) (k : Nat) (hk : n + m = k) (ys : List Value) (hys : xs ++ news = ys)
    (h : ∀ A' c' w', w'.ownsRow base e size (.slice A' k c') k ys → w.grownBy w' v.ownBlock → ((Value.slice A' k c').ownBlock = v.ownBlock ∨ (Value.slice A' k c').ownBlock = some w.heap.size) →
      wpListIn F nF P ops Q rest (a.put o.dst (.slice A' k c')) w') : wpListIn F nF P ops Q (o :: rest) a w := by
  refine wpListIn_plain hgd fun K hK' => ?_
  obtain ⟨A', c', w', hrun, h2, h3, h4⟩ := run_append_rd (P := P) w base t o.type e i z size bytes ht hi hz hsize hby hzs hsz v n xs hown A m c news hr h1 h63 hbytes hbase k hk ys hys
  unfold Oper.wpIn
  refine ⟨?_, ?_⟩
  · simp [Oper.about, ho, resolve, Target.leads, Sem.run_pure]
  · rw [Oper.semAt_plain F _ _ (by rw [ho]; intro c hc'; cases hc')]
    simp [execOp, ho, resolve, invoke, builtin, hs, hx, hrun, Result.andThen]
    exact hK' _ _ (h A' c' w' h2 h3 h4)

/-- What a round keeps: the blocks of K; whatever is no cells from B on. -/
structure RKeeps (K : Nat → Prop) (B : Nat) (W W' : World) : Prop where
  size : W.heap.size ≤ W'.heap.size
  kept : ∀ k, K k → W'.heap[k]? = W.heap[k]?
  others : ∀ (k : Nat) (o : Obj), B ≤ k → W.heap[k]? = some o → o.isCells = false → W'.heap[k]? = some o
theorem RKeeps.refl (K : Nat → Prop) (B : Nat) (W : World) : RKeeps K B W W := ⟨Nat.le_refl _, fun _ _ => rfl, fun _ _ _ h _ => h⟩
theorem RKeeps.trans {K : Nat → Prop} {B : Nat} {X Y Z : World} (h : RKeeps K B X Y) (k : RKeeps K B Y Z) : RKeeps K B X Z :=
  ⟨Nat.le_trans h.size k.size, fun i hi => (k.kept i hi).trans (h.kept i hi), fun i o hb ho hc => k.others i o hb (h.others i o hb ho hc) hc⟩
/-- New blocks, and writes to cells that K does not name. -/
theorem RKeeps.of_ext {K T : Nat → Prop} {B : Nat} {X Y : World} (h : Ext T X Y) (hK : ∀ k, K k → k < X.heap.size ∧ ¬ T k) (hT : ∀ k, T k → ∀ o, X.heap[k]? = some o → o.isCells = true ∨ k < B) : RKeeps K B X Y :=
  ⟨h.size, fun k hk => h.block k (hK k hk).1 (hK k hk).2, fun k o hb ho hc => by
    have hlt : k < X.heap.size := (Array.getElem?_eq_some_iff.1 ho).1
    by_cases ht : T k
    · rcases hT k ht o ho with h1 | h1
      · rw [h1] at hc; cases hc
      · omega
    · rw [h.block k hlt ht]; exact ho⟩

/-- What a round keeps for the iterator. -/
def KKeeps (K : Nat → Prop) (W W' : World) : Prop := W.heap.size ≤ W'.heap.size ∧ ∀ k, K k → W'.heap[k]? = W.heap[k]?

/-- What an iterator owes: called at yield, it calls yield at this and that, one behind the other: all of them (S), or so many till yield has said no (Sp). -/
def SeqT {α : Type} (F : Fence) (n : Nat) (P : Program) (g : Nat) (lb : Array Value) (encs : α → Array Value) (T K : Nat → Prop) (S Sp : List α → Prop) (w : World) : Prop :=
  ∀ (l : Nat) (J Jx : List α → World → Prop) (W : World), Below w.heap.size w W →
    (∀ s A B, J s A → Ext T A B → J s B) → (∀ s A B, Jx s A → Ext T A B → Jx s B) →
    (∀ pre x W1, J pre W1 → YieldAt F (n - 1) P l (encs x) W1 fun e W' =>
      (e = .returned (.bool true) ∧ J (pre ++ [x]) W' ∧ KKeeps K W1 W') ∨ (e = .returned (.bool false) ∧ Jx (pre ++ [x]) W' ∧ KKeeps K W1 W')) →
    J [] W →
    CallsIn F n P g (#[.func (.yield l) #[] #[]] ++ lb) W fun e W' => (∃ v, e = .returned v) ∧ ((∃ xs, S xs ∧ J xs W') ∨ (∃ pre, Sp pre ∧ Jx pre W'))

/-- How the body of a round may be left. -/
def postT {α : Type} (K : Nat → Prop) (B : Nat) (I : List α → World → Prop) (Ix : Code → List α → World → Prop) (xs : List α) (W : World) : Exit → Act → World → Prop
  | .normal, _, W' => RKeeps K B W W' ∧ I xs W'
  | .ret, _, W' => RKeeps K B W W' ∧ Ix .ret xs W'
  | .exit id, _, W' => RKeeps K B W W' ∧ Ix (.exit id) xs W'
  | .goto t, _, W' => RKeeps K B W W' ∧ Ix (.goto t) xs W'
  | .panic _, _, _ => False
  | .outgrown, _, _ => False

variable {F : Fence} {n : Nat} {P : Program}

theorem rkeeps_putObj {K : Nat → Prop} {B l : Nat} (hK : ∀ k, K k → k < B) (hl : B ≤ l) {W : World} {o o' : Obj} (h : W.heap[l]? = some o) (W' : World) (hW : RKeeps K B (W.putObj l o') W') :
    W.heap.size ≤ W'.heap.size ∧ (∀ k, K k → W'.heap[k]? = W.heap[k]?) ∧ (∀ (k : Nat) (ob : Obj), k ≠ l → B ≤ k → W.heap[k]? = some ob → ob.isCells = false → W'.heap[k]? = some ob) ∧ (o'.isCells = false → W'.heap[l]? = some o') := by
  have hlt : l < W.heap.size := (Array.getElem?_eq_some_iff.1 h).1
  refine ⟨by have := hW.size; simpa using this, fun k hk => ?_, fun k ob hne hb ho hc => ?_, fun hc => ?_⟩
  · rw [hW.kept k hk, World.putObj_heap_other (by have := hK k hk; omega)]
  · exact hW.others k ob hb (by rw [World.putObj_heap_other hne]; exact ho) hc
  · exact hW.others l o' hl (World.putObj_heap_same hlt) hc

theorem wpIn_rangeFunc_T {α : Type} {g : Operand} {ps : Array Tmp} {assign body : Code} {Q : Exit → Act → World → Prop} {a : Act} {w : World}
    (hro : F.round = none) (h1 : 1 ≤ n) {gf : Nat} {lb : Array Value} (hg : a.eval g = .func (.func gf) #[] lb) (hFg : F.fn gf) (eg : ∀ args w, (callFunc gf args).run P w = .ok (.enter gf args) w)
    {encs : α → Array Value} {T K : Nat → Prop} {S Sp : List α → Prop} (hseq : SeqT F (n - 1) P gf lb encs T K S Sp w)
    (hT : ∀ k, T k → k < w.heap.size) (hK : ∀ k, K k → k < w.heap.size) (hps : ∀ x, (encs x).size = ps.size)
    (I : List α → World → Prop) (Ix : Code → List α → World → Prop)
    (hI : ∀ s A B, I s A → Ext T A B → I s B) (hIx : ∀ c s A B, Ix c s A → Ext T A B → Ix c s B)
    (hIb : ∀ s A l o o', I s A → w.heap.size ≤ l → A.heap[l]? = some o → o.isCells = false → I s (A.putObj l o'))
    (hIxb : ∀ c s A l o o', Ix c s A → w.heap.size ≤ l → A.heap[l]? = some o → o.isCells = false → Ix c s (A.putObj l o'))
    (h0 : I [] w) (a₁ : α → Act)
    (hassign : ∀ (l : Nat) (x : α) (W : World) (K' : Act → World → Prop), K' (a₁ x) W →
      assign.wpIn (F.inRound l) (n - 1 - 1) P (Exit.then K' (fun _ _ _ => False)) { tmps := (ps.zip (encs x)).foldl (fun t (p, v) => t.setIfInBounds p v) a.tmps, defers := [] } W)
    (hbody : ∀ (l : Nat) (pre : List α) (x : α) (W : World), I pre W → body.wpIn (F.inRound l) (n - 1 - 1) P (postT K w.heap.size I Ix (pre ++ [x]) W) (a₁ x) W)
    (hdone : ∀ (D : Nat) (xs : List α) (W : World), w.heap.size ≤ D → S xs → I xs W → W.heap[D]? = some (.deferred (some [])) → Q .normal { a with defers := { target := .collected D, args := #[] } :: a.defers } W)
    (hstop : ∀ (D : Nat) (c : Code) (pre : List α) (W : World), w.heap.size ≤ D → Sp pre → Ix c pre W → W.heap[D]? = some (.deferred (some [])) → c.wpIn F n P Q { a with defers := { target := .collected D, args := #[] } :: a.defers } W) :
    (Code.rangeFunc g ps assign body).wpIn F n P Q a w := by
  refine wpIn_rangeFunc ?_
  intro fn hfn
  rw [hro]
  obtain ⟨D, hD⟩ : ∃ D, D = w.heap.size := ⟨_, rfl⟩
  obtain ⟨l, hl⟩ : ∃ l, l = w.heap.size + 1 := ⟨_, rfl⟩
  obtain ⟨rec, hrec⟩ : ∃ rec : LoopState → Option Code → Loop, rec = fun st pe => { state := st, pending := pe, fn, tmps := a.tmps, params := ps, assign, body, defers := w.heap.size } := ⟨_, rfl⟩
  obtain ⟨W1, hW1⟩ : ∃ W1, W1 = (w.alloc (.deferred (some []))).alloc (.loop (rec .ready none)) := ⟨_, rfl⟩
  have hext1 : Ext T w W1 := by rw [hW1]; exact ((Ext.refl T w).alloc _).alloc _
  have hbel1 : Below w.heap.size w W1 := by rw [hW1]; exact ((Below.refl _ w).alloc (Nat.le_refl _) _).alloc (by simp) _
  have hL1 : W1.heap[l]? = some (.loop (rec .ready none)) := by
    have := World.alloc_heap_new (w.alloc (.deferred (some []))) (.loop (rec .ready none))
    rw [World.size_alloc] at this
    rw [hW1, hl]; exact this
  have hD1 : W1.heap[D]? = some (.deferred (some [])) := by
    rw [hW1, hD]
    exact (Below.heap_alloc _ _ _ (by simp)).trans (World.alloc_heap_new w _)
  -- the two records lie on through the iterator's steps
  have keepB : ∀ (k : Nat) (o : Obj) (A B : World), w.heap.size ≤ k → A.heap[k]? = some o → Ext T A B → B.heap[k]? = some o := fun k o A B hk ho he => by
    rw [he.block k (Array.getElem?_eq_some_iff.1 ho).1 (fun ht => by have := hT k ht; omega)]; exact ho
  refine ⟨l, [{ target := .collected w.heap.size, args := #[] }], W1, { target := .fn (.func gf) lb, args := #[.func (.yield l) #[] #[]] }, W1, gf, #[.func (.yield l) #[] #[]] ++ lb, W1, ?_, ?_, ?_, ?_, fun _ => h1, ?_⟩
  · rw [hW1, hl, hrec]; exact run_enterLoop_outer _ _ _ _ _
  · simp only [resolve, hg]
    simp [go_sem]
  · intro f' hf'; simp [Target.leads] at hf'; subst hf'; exact hFg
  · simp [invoke, go_sem, eg]
  refine (hseq l (fun pre W => I pre W ∧ W.heap[l]? = some (.loop (rec .ready none)) ∧ W.heap[D]? = some (.deferred (some [])))
    (fun pre W => ∃ c, Ix c pre W ∧ W.heap[l]? = some (.loop (rec .done (some c))) ∧ W.heap[D]? = some (.deferred (some []))) W1 hbel1
    (fun s A B hs he => ⟨hI s A B hs.1 he, keepB l _ A B (by omega) hs.2.1 he, keepB D _ A B (by omega) hs.2.2 he⟩)
    (fun s A B hs he => by obtain ⟨c, h1, h2, h3⟩ := hs; exact ⟨c, hIx c s A B h1 he, keepB l _ A B (by omega) h2 he, keepB D _ A B (by omega) h3 he⟩)
    ?_ ⟨hI [] w W1 h0 hext1, hL1, hD1⟩).mono ?_
  · -- one round
    rintro pre x W ⟨hi, hlr, hdr⟩
    have hy := run_yield (P := P) (args := encs x) hlr (by rw [hrec]; exact hps x)
    refine ⟨_, _, _, _, hy, ?_⟩
    rw [hrec]
    refine roundIn_of_wpIn hfn (hassign _ x W _ ⟨_, run_beginRound hlr (by rw [hrec]), ?_⟩)
    refine wpIn_mono (hbody l pre x _ (hIb pre W l _ _ hi (by omega) hlr rfl)) ?_
    have fin : ∀ (jump : Option Code) (W3 : World), RKeeps K w.heap.size (W.putObj l (.loop { rec .ready none with state := .busy })) W3 →
        ∃ W4, (Instr.endRound l jump).run P W3 = .ok (.bool jump.isNone) W4 ∧ W4 = W3.putObj l (.loop (rec (if jump.isNone then .ready else .done) jump)) ∧
          (∃ o : Obj, W3.heap[l]? = some o ∧ o.isCells = false) ∧ W4.heap[l]? = some (.loop (rec (if jump.isNone then .ready else .done) jump)) ∧ W4.heap[D]? = some (.deferred (some [])) ∧ KKeeps K W W4 := fun jump W3 hk3 => by
      obtain ⟨k1, k2, k3, k4⟩ := rkeeps_putObj (l := l) hK (by omega) hlr W3 hk3
      have hl3 := k4 rfl
      have hd3 := k3 D _ (by omega) (by omega) hdr rfl
      have hr := run_endRound (P := P) jump hl3
      refine ⟨_, hr, by rw [hrec], ⟨_, hl3, rfl⟩, ?_, ?_, by simpa using k1, fun k hk => ?_⟩
      · rw [World.putObj_heap_same (Array.getElem?_eq_some_iff.1 hl3).1, hrec]
      · rw [World.putObj_heap_other (by omega)]; exact hd3
      · rw [World.putObj_heap_other (by have := hK k hk; omega)]; exact k2 k hk
    rintro e a3 W3 hp
    cases e with
    | normal =>
      obtain ⟨hk3, hi3⟩ := hp
      obtain ⟨W4, hr, hW4, ⟨o, ho, hoc⟩, hl4, hd4, hkk⟩ := fin none W3 hk3
      exact ⟨_, _, hr, .inl ⟨rfl, ⟨by rw [hW4]; exact hIb _ W3 l o _ hi3 (by omega) ho hoc, (by rw [hrec] at hl4; exact hl4), hd4⟩, hkk⟩⟩
    | ret =>
      obtain ⟨hk3, hi3⟩ := hp
      obtain ⟨W4, hr, hW4, ⟨o, ho, hoc⟩, hl4, hd4, hkk⟩ := fin (some .ret) W3 hk3
      exact ⟨_, _, hr, .inr ⟨rfl, ⟨.ret, by rw [hW4]; exact hIxb _ _ W3 l o _ hi3 (by omega) ho hoc, (by rw [hrec] at hl4; exact hl4), hd4⟩, hkk⟩⟩
    | exit id =>
      obtain ⟨hk3, hi3⟩ := hp
      obtain ⟨W4, hr, hW4, ⟨o, ho, hoc⟩, hl4, hd4, hkk⟩ := fin (some (.exit id)) W3 hk3
      exact ⟨_, _, hr, .inr ⟨rfl, ⟨.exit id, by rw [hW4]; exact hIxb _ _ W3 l o _ hi3 (by omega) ho hoc, (by rw [hrec] at hl4; exact hl4), hd4⟩, hkk⟩⟩
    | goto t =>
      obtain ⟨hk3, hi3⟩ := hp
      obtain ⟨W4, hr, hW4, ⟨o, ho, hoc⟩, hl4, hd4, hkk⟩ := fin (some (.goto t)) W3 hk3
      exact ⟨_, _, hr, .inr ⟨rfl, ⟨.goto t, by rw [hW4]; exact hIxb _ _ W3 l o _ hi3 (by omega) ho hoc, (by rw [hrec] at hl4; exact hl4), hd4⟩, hkk⟩⟩
    | panic ch => exact hp.elim
    | outgrown => exact hp.elim
  · -- behind the iterator
    rintro e W2 ⟨⟨v, rfl⟩, (⟨xs, hS, hi, hlr, hdr⟩ | ⟨pre, hSp, c, hi, hlr, hdr⟩)⟩
    · have hend := run_endLoop (P := P) hlr (by rw [hrec]; simp)
      have hp : (rec .ready none).pending = none := by rw [hrec]
      rw [hp] at hend
      exact ⟨none, _, hend, hdone _ xs _ (Nat.le_refl _) hS (hIb xs W2 l _ _ hi (by omega) hlr rfl) ((World.putObj_heap_other (by omega)).trans (by rw [← hD]; exact hdr))⟩
    · have hend := run_endLoop (P := P) hlr (by rw [hrec]; simp)
      have hp : (rec .done (some c)).pending = some c := by rw [hrec]
      rw [hp] at hend
      exact ⟨some c, _, hend, hstop _ c pre _ (Nat.le_refl _) hSp (hIxb c pre W2 l _ _ hi (by omega) hlr rfl) ((World.putObj_heap_other (by omega)).trans (by rw [← hD]; exact hdr))⟩
end Go.Proofs.YthabfgpncebigaaDoor

/- utf.forms: what the row's list gives of it: twelve numbers, cell by cell. -/
namespace Go.Proofs.YthabfgpncebigaaDoor
open Go.RowKit

/-- The table's numbers. -/
def formsL : List Int := [128, 0, 0, 2048, 192, 1, 65536, 224, 2, 1114112, 240, 3]
/-- The table lies where it lies, and reads as it stands in the text. -/
def Forms (w : World) : Prop := 3 < w.heap.size ∧ ∀ j, j < 12 → w.cell? ⟨3, j, none⟩ = some (.int .i64 (formsL.getD j 0))

theorem Forms.below {w w' : World} (h : Forms w) (hb : Below w.heap.size w w') : Forms w' := ⟨Nat.lt_of_lt_of_le h.1 hb.size, fun j hj => (hb.cell (p := ⟨3, j, none⟩) h.1).trans (h.2 j hj)⟩
theorem Forms.alloc {w : World} (h : Forms w) (o : Obj) : Forms (w.alloc o) := h.below ((Below.refl _ _).alloc (Nat.le_refl _) o)
theorem Forms.drewN {w : World} (h : Forms w) (n : Nat) : Forms (w.drewN n) := h
theorem Forms.drew {w : World} (h : Forms w) : Forms w.drew := h

/-- Small places beside a heap's size. -/
theorem glob_facts {n : Nat} (h : 3 < n) : 0 < n ∧ 3 - 1 < n ∧ 3 - 2 < n ∧ 3 < n + 1 ∧ 3 < n + 1 + 1 ∧ 3 < n + 1 + 1 + 1 := by omega

theorem form_cells {H : Type} {enc : TypeId × Value → H} {w : World} {base : Nat} {sp : Nat → Bool} {held : Bool} {fuel : Nat} {cs : List Value} {a b c : Int} {p : List MemPlace}
    (h : DataW.trod enc Tryd.prog w base sp held fuel 131 cs = some (.agg [.lit (.int .i64 a), .lit (.int .i64 b), .lit (.int .i64 c)], p)) (hl : cs.length = 3) : cs = [.int .i64 a, .int .i64 b, .int .i64 c] := by
  match cs, hl with
  | [u, v, x], _ =>
    obtain ⟨y0, y1, y2, n, hx, _, h0, h1, h2⟩ := Go.Deep.trod_struct3 Tryd.underlying131 h
    simp only [Prod.mk.injEq, DataW.agg.injEq, List.cons.injEq, and_true] at hx
    obtain ⟨⟨e0, e1, e2⟩, -⟩ := hx
    have hc : Tryd.prog.cellsOf 3 = 1 := by kernel_rfl
    simp only [hc] at h0 h1 h2
    obtain ⟨n0, g0, k0, -⟩ := DataW.trod_int Tryd.underlying3 h0
    obtain ⟨n1, g1, k1, -⟩ := DataW.trod_int Tryd.underlying3 h1
    obtain ⟨n2, g2, k2, -⟩ := DataW.trod_int Tryd.underlying3 h2
    rw [k0] at e0; rw [k1] at e1; rw [k2] at e2
    cases e0; cases e1; cases e2
    simp at g0 g1 g2
    rw [g0, g1, g2]

theorem forms_of_laid {W : World} (h : laidMetH Tryd.prog [("tabularium/utf.forms", Rows.laid_tabularium_utf_forms)] W) : Forms W := by
  obtain ⟨ps, ⟨g', t', cs, fuel, p, q, hg', ht', hvar, hd, _, _⟩, _⟩ := h
  have hg : Tryd.prog.globalNamed "tabularium/utf.forms" = some 3 := by kernel_rfl
  have ht : (Tryd.prog.globals[(3 : Nat)]?).map (·.type) = some 132 := by kernel_rfl
  obtain rfl := Option.some.inj (hg.symm.trans hg')
  obtain rfl := Option.some.inj (ht.symm.trans ht')
  obtain ⟨xs, m, rfl, hx, hl, hxl, he⟩ := DataW.trod_array Tryd.underlying132 hd
  have hc12 : Tryd.prog.cellsOf 132 = 12 := by kernel_rfl
  have hc3 : Tryd.prog.cellsOf 131 = 3 := by kernel_rfl
  rw [hc12] at hl
  simp only [hc3] at he
  match xs, hxl with
  | [x0, x1, x2, x3], _ =>
    simp only [Rows.laid_tabularium_utf_forms, Prod.mk.injEq, DataW.agg.injEq, List.map_cons, List.map_nil, List.cons.injEq, and_true] at hx
    obtain ⟨⟨e0, e1, e2, e3⟩, -⟩ := hx
    have h0 := he 0 (by omega)
    have h1 := he 1 (by omega)
    have h2 := he 2 (by omega)
    have h3 := he 3 (by omega)
    obtain ⟨d0, p0⟩ := x0
    obtain ⟨d1, p1⟩ := x1
    obtain ⟨d2, p2⟩ := x2
    obtain ⟨d3, p3⟩ := x3
    simp only at e0 e1 e2 e3
    subst e0 e1 e2 e3
    have c0 := form_cells h0 (by rw [List.length_take, List.length_drop, hl]; decide)
    have c1 := form_cells h1 (by rw [List.length_take, List.length_drop, hl]; decide)
    have c2 := form_cells h2 (by rw [List.length_take, List.length_drop, hl]; decide)
    have c3 := form_cells h3 (by rw [List.length_take, List.length_drop, hl]; decide)
    have hcs : cs.toList = formsL.map (Value.int .i64) := by
      have e : cs.toList = (cs.toList.drop (0 * 3)).take 3 ++ ((cs.toList.drop (1 * 3)).take 3 ++ ((cs.toList.drop (2 * 3)).take 3 ++ (cs.toList.drop (3 * 3)).take 3)) := by
        have s : ∀ (l : List Value), l.length = 12 → l = (l.drop (0 * 3)).take 3 ++ ((l.drop (1 * 3)).take 3 ++ ((l.drop (2 * 3)).take 3 ++ (l.drop (3 * 3)).take 3)) := fun l hl => by
          match l, hl with
          | [_, _, _, _, _, _, _, _, _, _, _, _], _ => rfl
        exact s _ hl
      rw [e, c0, c1, c2, c3]
      rfl
    have hlt : 3 < W.heap.size := by
      refine Nat.lt_of_not_le fun hh => ?_
      have := World.var?_cell hg hvar 0
      rw [World.cell?, Array.getElem?_eq_none hh] at this
      have h2 : cs[0]? = cs.toList[0]? := by simp
      rw [h2, hcs] at this
      simp [formsL] at this
    refine ⟨hlt, fun j hj => ?_⟩
    have := World.var?_cell hg hvar j
    rw [this]
    have h2 : cs[j]? = cs.toList[j]? := by simp
    rw [h2, hcs, List.getElem?_map, List.getD_eq_getElem?_getD, List.getElem?_eq_getElem (by simpa [formsL] using hj)]
    rfl
end Go.Proofs.YthabfgpncebigaaDoor

/- A block of cells known whole: its cells, stores into it, worlds behind. No program in sight. -/
namespace Go.Proofs.YthabfgpncebigaaDoor
open Go.RowKit

theorem laterz (w : World) : later w w.drawn #[] = w := by simp [later]
theorem later_later (w : World) (d e : Nat) (os ps : Array Obj) : later (later w d os) e ps = later w e (os ++ ps) := by simp [later, Array.append_assoc]

/-- Block b holds these cells. -/
def Blk (b : Nat) (t : TypeId) (cs : Array Value) (w : World) : Prop := w.heap[b]? = some (.cells cs t (0, 0))
section
variable {b : Nat} {t : TypeId} {cs : Array Value} {w w' : World}
theorem Blk.cell (h : Blk b t cs w) (i : Nat) : w.cell? ⟨b, i, none⟩ = cs[i]? := by unfold Blk at h; simp [World.cell?, h]
theorem Blk.frozen (h : Blk b t cs w) (i : Nat) : w.frozen? ⟨b, i, none⟩ = false := by unfold Blk at h; simp [World.frozen?, h]
theorem Blk.lt (h : Blk b t cs w) : b < w.heap.size := (Array.getElem?_eq_some_iff.1 h).1
theorem Blk.new (w : World) (t : TypeId) (cs : Array Value) : Blk w.heap.size t cs (w.alloc (.cells cs t)) := heap_alloc_new w _
theorem Blk.newAt (w : World) (t : TypeId) (cs : Array Value) {g : Nat} (h : w.heap.size = g) : Blk g t cs (w.alloc (.cells cs t)) := by subst h; exact heap_alloc_new w _
theorem Blk.alloc (h : Blk b t cs w) (o : Obj) : Blk b t cs (w.alloc o) := (Below.heap_alloc _ _ _ h.lt).trans h
theorem Blk.drew (h : Blk b t cs w) : Blk b t cs w.drew := h
theorem Blk.drewN (h : Blk b t cs w) (n : Nat) : Blk b t cs (w.drewN n) := h
theorem Blk.set (h : Blk b t cs w) (i : Nat) (v : Value) : Blk b t (cs.setIfInBounds i v) (w.setCell ⟨b, i, none⟩ v) := by
  unfold Blk at h ⊢; simp [World.setCell, Array.getElem?_modify, h]
theorem Blk.other (h : Blk b t cs w) {p : Addr} (hp : p.block ≠ b) (v : Value) : Blk b t cs (w.setCell p v) := (Below.heap_setCell _ _ _ _ hp.symm).trans h
theorem Blk.below {n : Nat} (h : Blk b t cs w) (hB : Below n w w') (hb : b < n) : Blk b t cs w' := (hB.block b hb).trans h
theorem Blk.ext {T : Nat → Prop} (h : Blk b t cs w) (he : Ext T w w') (hT : ¬ T b) : Blk b t cs w' := (he.block b h.lt hT).trans h
theorem Blk.not_row (h : Blk b t cs w) {e : TypeId} (hte : t ≠ e) {base size k : Nat} {v : Value} {xs : List Value} (hr : w.ownsRow base e size v k xs) : some b ≠ v.ownBlock := by
  rcases hr.2 with ⟨rfl, _⟩ | ⟨g, cap, cur, rfl, _, hgb, _⟩
  · simp [Value.ownBlock]
  · intro e'
    obtain rfl : b = g := by simpa [Value.ownBlock] using e'
    have := (show w.heap[b]? = _ from h).symm.trans hgb
    simp at this
    exact hte this.2
theorem Blk.grown {row : Option Nat} (h : Blk b t cs w) (hg : w.grownBy w' row) (hne : some b ≠ row) : Blk b t cs w' := (hg.block b h.lt hne).trans h
theorem Blk.putObj {l : Nat} {o o' : Obj} (h : Blk b t cs w) (hl : w.heap[l]? = some o) (ho : o.isCells = false) : Blk b t cs (w.putObj l o') := by
  have hne : b ≠ l := by
    rintro rfl
    unfold Blk at h
    rw [h] at hl
    cases hl; cases ho
  exact (World.putObj_heap_other hne).trans h
end
end Go.Proofs.YthabfgpncebigaaDoor

/- append to a row of bytes of the call's own, all but the lengths paid for. -/
namespace Go.Proofs.YthabfgpncebigaaDoor
open Go.RowKit

theorem info_byte : (Tryd.prog.info? 5).map (fun i => (i.zero, i.size, i.bytes)) = some (some (.int .u8 0), 1, 1) := by kernel_rfl

theorem wpList_app {ops : Array Oper} {rest : List Oper} {o : Oper} {a : Act} {Q : Exit → Act → World → Prop} {w : World} (W : World) (hgd : o.guard = none) (s x : Operand)
    (ho : o.op = .call { callee := .builtin .append, args := #[s, x], argTypes := #[93, 93] })
    (base : Nat) (p l : List UInt8) (A : Option Addr) (n c : Nat) (hown : w.ownsRow base 5 1 (.slice A n c) n (bval p)) (hs : a.eval s = .slice A n c)
    (B : Option Addr) (m d : Nat) (hr : Bs w B m d l) (hx : a.eval x = .slice B m d)
    (hbytes : n + m ≤ 140737488355328) (hbase : base ≤ w.heap.size) (hB : Below base W w) (k : Nat) (hk : n + m = k) (q : List UInt8) (hq : p ++ l = q)
    (h : ∀ A' c' w', w'.ownsRow base 5 1 (.slice A' k c') k (bval q) → Below base W w' → w.grownBy w' (Value.slice A n c).ownBlock → wpList Tryd.prog ops Q rest (a.put o.dst (.slice A' k c')) w') : wpList Tryd.prog ops Q (o :: rest) a w := by
  obtain ⟨i0, hi, hz0, hz1, hz2⟩ := info_parts info_byte
  subst hq
  refine wpList_append_rd w hgd s x _ ho base 5 i0 _ 1 1 Tryd.underlying93 hi hz0 hz1 hz2 rfl (by omega) _ _ _ hown hs _ _ _ _ hr hx (bval_one l) (by unfold maxLen; omega) (by omega) hbase k hk _ (bval_append p l).symm ?_
  intro A' c' w' h1 h2 _
  exact h A' c' w' h1 (below_append hB hown h2 (Nat.le_refl _) hbase) h2

/-- What a nil slice of the call's own owns. -/
theorem own_nil (w : World) (base : Nat) : w.ownsRow base 5 1 (.slice none 0 0) 0 (bval []) := World.ownsRow_nil _ _ _ _
/-- An empty row that was just made. -/
theorem own_empty (w : World) (base : Nat) (h : base ≤ w.heap.size) : (w.alloc (.cells #[] 5)).ownsRow base 5 1 (.slice (some ⟨w.heap.size, 0, none⟩) 0 0) 0 (bval []) :=
  World.ownsRow_lit w #[] 0 h (by simp [maxLen]) rfl
theorem bs_one (w : World) (c : Nat) (hc : c < 256) : Bs (w.alloc (.cells #[.int .u8 (c : Int)] 5)) (some ⟨w.heap.size, 0, none⟩) 1 1 [UInt8.ofNat c] := by
  have := Rd.new1 w 5 (.int .u8 (c : Int))
  unfold Bs bval
  have e : ((UInt8.ofNat c).toNat : Int) = c := by simp; omega
  simp only [List.map_cons, List.map_nil, e]
  exact this
theorem own_bs {w : World} {base : Nat} {A : Option Addr} {n c : Nat} {l : List UInt8} (h : w.ownsRow base 5 1 (.slice A n c) n (bval l)) : Bs w A n c l := Bs.of_own h
theorem own_len {w : World} {base : Nat} {A : Option Addr} {n c : Nat} {l : List UInt8} (h : w.ownsRow base 5 1 (.slice A n c) n (bval l)) : n = l.length := (Bs.of_own h).len
theorem own_keep {w w' : World} {base e size : Nat} {v : Value} {n : Nat} {xs : List Value} (h : w.ownsRow base e size v n xs) (hb : Below w.heap.size w w') : w'.ownsRow base e size v n xs := by
  obtain ⟨h1, h2⟩ := h
  refine ⟨h1, ?_⟩
  rcases h2 with h2 | ⟨g, cap, cur, hv, hg, hh, r⟩
  · exact .inl h2
  · exact .inr ⟨g, cap, cur, hv, hg, by rw [hb.block _ (Array.getElem?_eq_some_iff.1 hh).1]; exact hh, r⟩
/-- 'b[k:]', its address under one name. -/
theorem cut_bytes {w : World} {A : Option Addr} {n c k : Nat} {l : List UInt8} (h : Bs w A n c l) (hk : k ≤ n) :
    ∃ A2, (∀ w', (Instr.slice 93 (.slice A n c) (some (.int .i64 (k : Int))) none none).run Tryd.prog w' = .ok (.slice A2 (n - k) (c - k)) w') ∧ Bs w A2 (n - k) (c - k) (l.drop k) ∧ (∀ a2, A2 = some a2 → ∃ ad, A = some ad ∧ a2.block = ad.block) := by
  have hc := h.2.1
  have hcut := Rd.cut h hk
  rw [Nat.mul_one, bval_drop] at hcut
  have h0 : (0 : Int) ≤ (k : Int) := by omega
  have h1 : (k : Int) ≤ (n : Int) := by omega
  refine ⟨if c = k then A else A.map (fun x : Addr => x.add k), fun w' => ?_, hcut, fun a2 e => ?_⟩
  · by_cases hck : c = k
    · subst hck
      simp [h1, go_sem]
    · simp [h1, hck, go_sem]
  · split at e
    · exact ⟨a2, e, rfl⟩
    · obtain ⟨ad, rfl, rfl⟩ := Option.map_eq_some_iff.1 e
      exact ⟨ad, rfl, block_of_add _ _⟩
theorem own_head {w : World} {base : Nat} {e : TypeId} {size n c : Nat} {A : Option Addr} {xs : List Value} (h : w.ownsRow base e size (.slice A n c) n xs) (hn : 0 < n) : ∃ g, A = some ⟨g, 0, none⟩ ∧ base ≤ g := by
  rcases h.2 with ⟨hv, h0⟩ | ⟨g, cap, cur, hv, hb, _⟩
  · omega
  · injection hv with hA
    exact ⟨g, hA, hb⟩
/-- What a call hands back: a slice of its own that reads as l. -/
def Ob (w : World) (l : List UInt8) (e : Ending) (w' : World) : Prop := Owned w 5 (bval l) e w'
theorem Bs.sub {w : World} {A : Option Addr} {n c : Nat} {l : List UInt8} (h : Bs w A n c l) (i j : Int) (s k : Nat) (hi : i = (s : Int)) (hj : j = ((s + k : Nat) : Int)) (hk : s + k ≤ n) :
    ∃ A2, (∀ w', (Instr.slice 93 (.slice A n c) (some (.int .i64 i)) (some (.int .i64 j)) none).run Tryd.prog w' = .ok (.slice A2 k (c - s)) w') ∧ Bs w A2 k (c - s) ((l.drop s).take k) ∧ (∀ a2, A2 = some a2 → ∃ ad, A = some ad ∧ a2.block = ad.block) := by
  have hc := h.2.1
  have hcut := Rd.cut h (k := s) (by omega)
  rw [Nat.mul_one, bval_drop] at hcut
  have hup := Rd.upto hcut (k := k) (by omega)
  rw [Nat.mul_one, bval_take] at hup
  obtain ⟨t, ht⟩ : ∃ t, t = s + k := ⟨_, rfl⟩
  have hkt : k = t - s := by omega
  rw [← ht] at hj hk
  subst hi hj
  have h1 : s ≤ t := by omega
  have h2 : t ≤ c := by omega
  refine ⟨if c = s then A else A.map (fun x : Addr => x.add s), fun w' => ?_, hup, fun a2 e => ?_⟩
  · rw [hkt]
    clear hkt hup ht
    by_cases hck : c = s
    · subst hck
      simp [h1, h2, go_sem]
    · simp [h1, h2, hck, go_sem]
  · split at e
    · exact ⟨a2, e, rfl⟩
    · obtain ⟨ad, rfl, rfl⟩ := Option.map_eq_some_iff.1 e
      exact ⟨ad, rfl, block_of_add _ _⟩
theorem cut_bytes_int {w : World} {A : Option Addr} {n c k : Nat} {l : List UInt8} (h : Bs w A n c l) (i : Int) (hi : i = (k : Int)) (hk : k ≤ n) :
    ∃ A2, (∀ w', (Instr.slice 93 (.slice A n c) (some (.int .i64 i)) none none).run Tryd.prog w' = .ok (.slice A2 (n - k) (c - k)) w') ∧ Bs w A2 (n - k) (c - k) (l.drop k) ∧ (∀ a2, A2 = some a2 → ∃ ad, A = some ad ∧ a2.block = ad.block) := by
  subst hi
  exact cut_bytes h hk
end Go.Proofs.YthabfgpncebigaaDoor
