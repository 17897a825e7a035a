/- Cells of pairs, worlds beside a range over a function: what tabulariumlaw02.told and others need. -/
import Derived.Test.YtpoameaaoapiiaaDoorUw4
namespace Go.Proofs.YtpoameaaoapiiaaDoor
open Go.RowKit

attribute [local go_sem] Oper.semAt_some

/-- Scalars and their places, as cells. -/
def sval (l : List (Nat × Nat)) : List Value := l.flatMap fun x => [.int .i64 x.1, .int .i64 x.2]
theorem sval_append (a b : List (Nat × Nat)) : sval (a ++ b) = sval a ++ sval b := by simp [sval]
theorem sval_snoc (l : List (Nat × Nat)) (x : Nat × Nat) : sval (l ++ [x]) = sval l ++ [.int .i64 x.1, .int .i64 x.2] := by simp [sval]
theorem sval_length (l : List (Nat × Nat)) : (sval l).length = l.length * 2 := by
  induction l with
  | nil => rfl
  | cons x l ih => simp only [sval, List.flatMap_cons, List.length_append, List.length_cons, List.length_nil] at ih ⊢; omega
theorem sval_get {l : List (Nat × Nat)} {k : Nat} (h : k < l.length) : (sval l)[k * 2]? = some (.int .i64 (l[k].1 : Int)) ∧ (sval l)[k * 2 + 1]? = some (.int .i64 (l[k].2 : Int)) := by
  induction l generalizing k with
  | nil => simp at h
  | cons x l ih =>
    cases k with
    | zero => exact ⟨rfl, rfl⟩
    | succ k =>
      have := ih (k := k) (by simpa using h)
      have e : sval (x :: l) = (.int .i64 x.1) :: (.int .i64 x.2) :: sval l := rfl
      rw [e, show (k + 1) * 2 = k * 2 + 1 + 1 by omega]
      simpa using this

/-- A call that makes a slice of its own, its elements of sz cells each. -/
def OwnedS (w : World) (t : TypeId) (sz : Nat) (xs : List Value) (e : Ending) (w' : World) : Prop :=
  ∃ A n c, e = .returned (.slice A n c) ∧ w'.ownsRow w.heap.size t sz (.slice A n c) n xs ∧ Below w.heap.size w w'

/-- A new block that holds one element. -/
theorem Rd.newE (w : World) (e : TypeId) (cs : List Value) (sz : Nat) (hl : cs.length = sz) : Rd (w.alloc (.cells cs.toArray e)) sz (some ⟨w.heap.size, 0, none⟩) 1 1 cs := by
  refine ⟨by omega, Nat.le_refl _, by simp [maxLen], fun _ => ⟨_, rfl, by simp, fun j u hu => ?_⟩⟩
  have hadd : (⟨w.heap.size, 0, none⟩ : Addr).add j = ⟨w.heap.size, j, none⟩ := by unfold Addr.add; split <;> simp_all
  rw [hadd, cell_of_row _ w.heap.size j cs.toArray e (0, 0) (heap_alloc_new w _)]
  simpa using hu

theorem run_equalIn_func_nil {P : Program} (w : World) (d : Nat) {t : TypeId} {ps rs : Array TypeId} {v : Bool} (ht : P.underlying t = some (.func ps rs v)) (f : Fn) (a c : Array Value) :
    (Op.equalIn (d + 1) t (.func f a c) .nilFunc).run P w = .ok false w := by
  simp [Op.equalIn, run_underlying ht]
theorem run_neq_func_nil {P : Program} (w : World) {t : TypeId} {ps rs : Array TypeId} {v : Bool} (ht : P.underlying t = some (.func ps rs v)) (f : Fn) (a c : Array Value) :
    (binOp .neq t (.func f a c) .nilFunc).run P w = .ok (.bool true) w := by
  simp only [binOp]
  simp [Op.equal, Op.maxDepth, run_equalIn_func_nil w 9999 ht f a c]

theorem boxed_ext {T : Nat → Prop} {A B : World} {b : Nat} {t : TypeId} {v : Value} (h : Boxed A b t v) (he : Ext T A B) (hT : ¬ T b) : Boxed B b t v := (he.block b h.lt hT).trans h
theorem boxed_putObj {A : World} {b l : Nat} {t : TypeId} {v : Value} {o o' : Obj} (h : Boxed A b t v) (hl : A.heap[l]? = some o) (ho : o.isCells = false) : Boxed (A.putObj l o') b t v := by
  have hne : b ≠ l := by
    rintro rfl
    rw [show A.heap[b]? = _ from h] at hl
    cases hl; cases ho
  exact (World.putObj_heap_other hne).trans h
theorem ownsRow_ext {T : Nat → Prop} {A B : World} {base : Nat} {e : TypeId} {sz : Nat} {v : Value} {k : Nat} {xs : List Value} (h : A.ownsRow base e sz v k xs) (he : Ext T A B) (hT : ∀ g, v.ownBlock = some g → ¬ T g) : B.ownsRow base e sz v k xs := by
  refine ⟨h.1, ?_⟩
  rcases h.2 with h0 | ⟨g, cap, cur, rfl, hb, hg, rest⟩
  · exact .inl h0
  · exact .inr ⟨g, cap, cur, rfl, hb, by rw [he.block g (Array.getElem?_eq_some_iff.1 hg).1 (hT g rfl)]; exact hg, rest⟩
theorem below_ext {T : Nat → Prop} {n₀ : Nat} {w A B : World} (h : Below n₀ w A) (he : Ext T A B) (hT : ∀ k, T k → n₀ ≤ k) (hn : n₀ ≤ w.heap.size) : Below n₀ w B :=
  h.trans ⟨he.os, he.tape, he.output, he.size, fun k hk => he.block k (by have := h.size; omega) (fun ht => by have := hT k ht; omega)⟩
theorem below_putObj {n₀ : Nat} {w A : World} {l : Nat} {o : Obj} (h : Below n₀ w A) (hl : n₀ ≤ l) : Below n₀ w (A.putObj l o) :=
  h.trans ⟨rfl, rfl, rfl, by simp, fun k hk => World.putObj_heap_other (by omega)⟩

/-- What the iterator wants kept: the table. -/
def UK (k : Nat) : Prop := k = 0
end Go.Proofs.YtpoameaaoapiiaaDoor
