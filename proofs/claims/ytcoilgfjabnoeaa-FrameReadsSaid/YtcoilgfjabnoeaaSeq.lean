/- A range over a function: the caller's law, where the iterator may write boxes of its own (T) and asks that a round keeps certain blocks (K). Proved from the base's two laws on a round and on the statement. No program in sight. -/
import Derived.Test.YtcoilgfjabnoeaaBase
import Derived.RangeFuncNested
import Derived.RangeFuncBound
import Derived.RangeFuncCalls
import Derived.RangeFuncLeaves
import Derived.Shelf.Abstract
import Derived.Shelf.RegionOpen
import Derived.OwnWalkIn
import Derived.TacticsInMore
import Derived.LoopNIn
import Derived.LoopIn
namespace Go.Proofs.Ytcoilgfjabnoeaa
open Go.RowKit

/-- B is A with new blocks, and writes to blocks of T alone. -/
structure Ext (T : Nat → Prop) (A B : World) : Prop where
  os : B.os = A.os
  tape : B.tape = A.tape
  output : B.output = A.output
  size : A.heap.size ≤ B.heap.size
  block : ∀ k, k < A.heap.size → ¬ T k → B.heap[k]? = A.heap[k]?

theorem Ext.refl (T : Nat → Prop) (A : World) : Ext T A A := ⟨rfl, rfl, rfl, Nat.le_refl _, fun _ _ _ => rfl⟩
theorem Ext.trans {T : Nat → Prop} {A B C : World} (h : Ext T A B) (k : Ext T B C) : Ext T A C :=
  ⟨k.os.trans h.os, k.tape.trans h.tape, k.output.trans h.output, Nat.le_trans h.size k.size, fun i hi ht => (k.block i (Nat.lt_of_lt_of_le hi h.size) ht).trans (h.block i hi ht)⟩
theorem Ext.of_below {T : Nat → Prop} {A B : World} (h : Below A.heap.size A B) : Ext T A B := ⟨h.os, h.tape, h.output, h.size, fun k hk _ => h.block k hk⟩
theorem Ext.of_grown {T : Nat → Prop} {A B : World} {row : Option Nat} (h : A.grownBy B row) (hr : ∀ r, row = some r → T r) : Ext T A B :=
  ⟨h.os, h.tape, h.output, h.size, fun k hk ht => h.block k hk (fun e => ht (hr k e.symm))⟩
theorem Ext.alloc {T : Nat → Prop} {A B : World} (h : Ext T A B) (o : Obj) : Ext T A (B.alloc o) := h.trans (.of_below ((Below.refl _ _).alloc (Nat.le_refl _) o))
theorem Ext.drew {T : Nat → Prop} {A B : World} (h : Ext T A B) : Ext T A B.drew := ⟨h.os, h.tape, h.output, h.size, h.block⟩
theorem Ext.setCell {T : Nat → Prop} {A B : World} (h : Ext T A B) {p : Addr} (hp : T p.block) (v : Value) : Ext T A (B.setCell p v) :=
  h.trans ⟨rfl, rfl, rfl, by simp [World.setCell], fun k _ ht => Below.heap_setCell _ _ _ _ (fun e => ht (e ▸ hp))⟩

theorem wpListIn_append_rd {F : Fence} {nF : Nat} {P : Program} (w : World) {ops : Array Oper} {rest : List Oper} {o : Oper} {a : Act} {Q : Exit → Act → World → Prop} (hgd : o.guard = none) (s x : Operand) (t : TypeId)
    (ho : o.op = .call { callee := .builtin .append, args := #[s, x], argTypes := #[t, t] })
    (base : Nat) (e : TypeId) (i : TypeInfo) (z : Value) (size bytes : Nat) (ht : P.underlying t = some (.slice e)) (hi : P.info? e = some i) (hz : i.zero = some z)
    (hsize : i.size = size) (hby : i.bytes = bytes) (hzs : z.cells.size = size) (hsz : 0 < size)
    (v : Value) (n : Nat) (xs : List Value) (hown : w.ownsRow base e size v n xs) (hs : a.eval s = v)
    (A : Option Addr) (m c : Nat) (news : List Value) (hr : Rd w size A m c news) (hx : a.eval x = .slice A m c) (h1 : ∀ u ∈ news, u.oneCell' = true)
    (h63 : n + m ≤ maxLen) (hbytes : (n + m) * bytes ≤ 140737488355328) (hbase : base ≤ w.heap.size) (k : Nat) (hk : n + m = k) (ys : List Value) (hys : xs ++ news = ys)
    (h : ∀ A' c' w', w'.ownsRow base e size (.slice A' k c') k ys → w.grownBy w' v.ownBlock → ((Value.slice A' k c').ownBlock = v.ownBlock ∨ (Value.slice A' k c').ownBlock = some w.heap.size) →
      wpListIn F nF P ops Q rest (a.put o.dst (.slice A' k c')) w') : wpListIn F nF P ops Q (o :: rest) a w := by
  refine wpListIn_plain hgd fun K hK' => ?_
  obtain ⟨A', c', w', hrun, h2, h3, h4⟩ := run_append_rd (P := P) w base t o.type e i z size bytes ht hi hz hsize hby hzs hsz v n xs hown A m c news hr h1 h63 hbytes hbase k hk ys hys
  unfold Oper.wpIn
  refine ⟨?_, ?_⟩
  · simp [Oper.about, ho, resolve, Target.leads, Sem.run_pure]
  · rw [Oper.semAt_plain F _ _ (by rw [ho]; intro c hc'; cases hc')]
    simp [execOp, ho, resolve, invoke, builtin, hs, hx, hrun, Result.andThen]
    exact hK' _ _ (h A' c' w' h2 h3 h4)

/-- What a round keeps: the blocks of K; whatever is no cells from B on. -/
structure RKeeps (K : Nat → Prop) (B : Nat) (W W' : World) : Prop where
  size : W.heap.size ≤ W'.heap.size
  kept : ∀ k, K k → W'.heap[k]? = W.heap[k]?
  others : ∀ (k : Nat) (o : Obj), B ≤ k → W.heap[k]? = some o → o.isCells = false → W'.heap[k]? = some o
theorem RKeeps.refl (K : Nat → Prop) (B : Nat) (W : World) : RKeeps K B W W := ⟨Nat.le_refl _, fun _ _ => rfl, fun _ _ _ h _ => h⟩
theorem RKeeps.trans {K : Nat → Prop} {B : Nat} {X Y Z : World} (h : RKeeps K B X Y) (k : RKeeps K B Y Z) : RKeeps K B X Z :=
  ⟨Nat.le_trans h.size k.size, fun i hi => (k.kept i hi).trans (h.kept i hi), fun i o hb ho hc => k.others i o hb (h.others i o hb ho hc) hc⟩
/-- New blocks, and writes to cells that K does not name. -/
theorem RKeeps.of_ext {K T : Nat → Prop} {B : Nat} {X Y : World} (h : Ext T X Y) (hK : ∀ k, K k → k < X.heap.size ∧ ¬ T k) (hT : ∀ k, T k → ∀ o, X.heap[k]? = some o → o.isCells = true ∨ k < B) : RKeeps K B X Y :=
  ⟨h.size, fun k hk => h.block k (hK k hk).1 (hK k hk).2, fun k o hb ho hc => by
    have hlt : k < X.heap.size := (Array.getElem?_eq_some_iff.1 ho).1
    by_cases ht : T k
    · rcases hT k ht o ho with h1 | h1
      · rw [h1] at hc; cases hc
      · omega
    · rw [h.block k hlt ht]; exact ho⟩

/-- What a round keeps for the iterator. -/
def KKeeps (K : Nat → Prop) (W W' : World) : Prop := W.heap.size ≤ W'.heap.size ∧ ∀ k, K k → W'.heap[k]? = W.heap[k]?

/-- What an iterator owes: called at yield, it calls yield at this and that, one behind the other: all of them (S), or so many till yield has said no (Sp). -/
def SeqT {α : Type} (F : Fence) (n : Nat) (P : Program) (g : Nat) (lb : Array Value) (encs : α → Array Value) (T K : Nat → Prop) (S Sp : List α → Prop) (w : World) : Prop :=
  ∀ (l : Nat) (J Jx : List α → World → Prop) (W : World), Below w.heap.size w W →
    (∀ s A B, J s A → Ext T A B → J s B) → (∀ s A B, Jx s A → Ext T A B → Jx s B) →
    (∀ pre x W1, J pre W1 → YieldAt F (n - 1) P l (encs x) W1 fun e W' =>
      (e = .returned (.bool true) ∧ J (pre ++ [x]) W' ∧ KKeeps K W1 W') ∨ (e = .returned (.bool false) ∧ Jx (pre ++ [x]) W' ∧ KKeeps K W1 W')) →
    J [] W →
    CallsIn F n P g (#[.func (.yield l) #[] #[]] ++ lb) W fun e W' => (∃ v, e = .returned v) ∧ ((∃ xs, S xs ∧ J xs W') ∨ (∃ pre, Sp pre ∧ Jx pre W'))

/-- How the body of a round may be left. -/
def postT {α : Type} (K : Nat → Prop) (B : Nat) (I : List α → World → Prop) (Ix : Code → List α → World → Prop) (xs : List α) (W : World) : Exit → Act → World → Prop
  | .normal, _, W' => RKeeps K B W W' ∧ I xs W'
  | .ret, _, W' => RKeeps K B W W' ∧ Ix .ret xs W'
  | .exit id, _, W' => RKeeps K B W W' ∧ Ix (.exit id) xs W'
  | .goto t, _, W' => RKeeps K B W W' ∧ Ix (.goto t) xs W'
  | .panic _, _, _ => False
  | .outgrown, _, _ => False

variable {F : Fence} {n : Nat} {P : Program}

theorem rkeeps_putObj {K : Nat → Prop} {B l : Nat} (hK : ∀ k, K k → k < B) (hl : B ≤ l) {W : World} {o o' : Obj} (h : W.heap[l]? = some o) (W' : World) (hW : RKeeps K B (W.putObj l o') W') :
    W.heap.size ≤ W'.heap.size ∧ (∀ k, K k → W'.heap[k]? = W.heap[k]?) ∧ (∀ (k : Nat) (ob : Obj), k ≠ l → B ≤ k → W.heap[k]? = some ob → ob.isCells = false → W'.heap[k]? = some ob) ∧ (o'.isCells = false → W'.heap[l]? = some o') := by
  have hlt : l < W.heap.size := (Array.getElem?_eq_some_iff.1 h).1
  refine ⟨by have := hW.size; simpa using this, fun k hk => ?_, fun k ob hne hb ho hc => ?_, fun hc => ?_⟩
  · rw [hW.kept k hk, World.putObj_heap_other (by have := hK k hk; omega)]
  · exact hW.others k ob hb (by rw [World.putObj_heap_other hne]; exact ho) hc
  · exact hW.others l o' hl (World.putObj_heap_same hlt) hc

theorem wpIn_rangeFunc_T {α : Type} {g : Operand} {ps : Array Tmp} {assign body : Code} {Q : Exit → Act → World → Prop} {a : Act} {w : World}
    (hro : F.round = none) (h1 : 1 ≤ n) {gf : Nat} {lb : Array Value} (hg : a.eval g = .func (.func gf) #[] lb) (hFg : F.fn gf) (eg : ∀ args w, (callFunc gf args).run P w = .ok (.enter gf args) w)
    {encs : α → Array Value} {T K : Nat → Prop} {S Sp : List α → Prop} (hseq : SeqT F (n - 1) P gf lb encs T K S Sp w)
    (hT : ∀ k, T k → k < w.heap.size) (hK : ∀ k, K k → k < w.heap.size) (hps : ∀ x, (encs x).size = ps.size)
    (I : List α → World → Prop) (Ix : Code → List α → World → Prop)
    (hI : ∀ s A B, I s A → Ext T A B → I s B) (hIx : ∀ c s A B, Ix c s A → Ext T A B → Ix c s B)
    (hIb : ∀ s A l o o', I s A → w.heap.size ≤ l → A.heap[l]? = some o → o.isCells = false → I s (A.putObj l o'))
    (hIxb : ∀ c s A l o o', Ix c s A → w.heap.size ≤ l → A.heap[l]? = some o → o.isCells = false → Ix c s (A.putObj l o'))
    (h0 : I [] w) (a₁ : α → Act)
    (hassign : ∀ (l : Nat) (x : α) (W : World) (K' : Act → World → Prop), K' (a₁ x) W →
      assign.wpIn (F.inRound l) (n - 1 - 1) P (Exit.then K' (fun _ _ _ => False)) { tmps := (ps.zip (encs x)).foldl (fun t (p, v) => t.setIfInBounds p v) a.tmps, defers := [] } W)
    (hbody : ∀ (l : Nat) (pre : List α) (x : α) (W : World), I pre W → body.wpIn (F.inRound l) (n - 1 - 1) P (postT K w.heap.size I Ix (pre ++ [x]) W) (a₁ x) W)
    (hdone : ∀ (D : Nat) (xs : List α) (W : World), w.heap.size ≤ D → S xs → I xs W → W.heap[D]? = some (.deferred (some [])) → Q .normal { a with defers := { target := .collected D, args := #[] } :: a.defers } W)
    (hstop : ∀ (D : Nat) (c : Code) (pre : List α) (W : World), w.heap.size ≤ D → Sp pre → Ix c pre W → W.heap[D]? = some (.deferred (some [])) → c.wpIn F n P Q { a with defers := { target := .collected D, args := #[] } :: a.defers } W) :
    (Code.rangeFunc g ps assign body).wpIn F n P Q a w := by
  refine wpIn_rangeFunc ?_
  intro fn hfn
  rw [hro]
  obtain ⟨D, hD⟩ : ∃ D, D = w.heap.size := ⟨_, rfl⟩
  obtain ⟨l, hl⟩ : ∃ l, l = w.heap.size + 1 := ⟨_, rfl⟩
  obtain ⟨rec, hrec⟩ : ∃ rec : LoopState → Option Code → Loop, rec = fun st pe => { state := st, pending := pe, fn, tmps := a.tmps, params := ps, assign, body, defers := w.heap.size } := ⟨_, rfl⟩
  obtain ⟨W1, hW1⟩ : ∃ W1, W1 = (w.alloc (.deferred (some []))).alloc (.loop (rec .ready none)) := ⟨_, rfl⟩
  have hext1 : Ext T w W1 := by rw [hW1]; exact ((Ext.refl T w).alloc _).alloc _
  have hbel1 : Below w.heap.size w W1 := by rw [hW1]; exact ((Below.refl _ w).alloc (Nat.le_refl _) _).alloc (by simp) _
  have hL1 : W1.heap[l]? = some (.loop (rec .ready none)) := by
    have := World.alloc_heap_new (w.alloc (.deferred (some []))) (.loop (rec .ready none))
    rw [World.size_alloc] at this
    rw [hW1, hl]; exact this
  have hD1 : W1.heap[D]? = some (.deferred (some [])) := by
    rw [hW1, hD]
    exact (Below.heap_alloc _ _ _ (by simp)).trans (World.alloc_heap_new w _)
  -- the two records lie on through the iterator's steps
  have keepB : ∀ (k : Nat) (o : Obj) (A B : World), w.heap.size ≤ k → A.heap[k]? = some o → Ext T A B → B.heap[k]? = some o := fun k o A B hk ho he => by
    rw [he.block k (Array.getElem?_eq_some_iff.1 ho).1 (fun ht => by have := hT k ht; omega)]; exact ho
  refine ⟨l, [{ target := .collected w.heap.size, args := #[] }], W1, { target := .fn (.func gf) lb, args := #[.func (.yield l) #[] #[]] }, W1, gf, #[.func (.yield l) #[] #[]] ++ lb, W1, ?_, ?_, ?_, ?_, fun _ => h1, ?_⟩
  · rw [hW1, hl, hrec]; exact run_enterLoop_outer _ _ _ _ _
  · simp only [resolve, hg]
    simp [go_sem]
  · intro f' hf'; simp [Target.leads] at hf'; subst hf'; exact hFg
  · simp [invoke, go_sem, eg]
  refine (hseq l (fun pre W => I pre W ∧ W.heap[l]? = some (.loop (rec .ready none)) ∧ W.heap[D]? = some (.deferred (some [])))
    (fun pre W => ∃ c, Ix c pre W ∧ W.heap[l]? = some (.loop (rec .done (some c))) ∧ W.heap[D]? = some (.deferred (some []))) W1 hbel1
    (fun s A B hs he => ⟨hI s A B hs.1 he, keepB l _ A B (by omega) hs.2.1 he, keepB D _ A B (by omega) hs.2.2 he⟩)
    (fun s A B hs he => by obtain ⟨c, h1, h2, h3⟩ := hs; exact ⟨c, hIx c s A B h1 he, keepB l _ A B (by omega) h2 he, keepB D _ A B (by omega) h3 he⟩)
    ?_ ⟨hI [] w W1 h0 hext1, hL1, hD1⟩).mono ?_
  · -- one round
    rintro pre x W ⟨hi, hlr, hdr⟩
    have hy := run_yield (P := P) (args := encs x) hlr (by rw [hrec]; exact hps x)
    refine ⟨_, _, _, _, hy, ?_⟩
    rw [hrec]
    refine roundIn_of_wpIn hfn (hassign _ x W _ ⟨_, run_beginRound hlr (by rw [hrec]), ?_⟩)
    refine wpIn_mono (hbody l pre x _ (hIb pre W l _ _ hi (by omega) hlr rfl)) ?_
    have fin : ∀ (jump : Option Code) (W3 : World), RKeeps K w.heap.size (W.putObj l (.loop { rec .ready none with state := .busy })) W3 →
        ∃ W4, (Instr.endRound l jump).run P W3 = .ok (.bool jump.isNone) W4 ∧ W4 = W3.putObj l (.loop (rec (if jump.isNone then .ready else .done) jump)) ∧
          (∃ o : Obj, W3.heap[l]? = some o ∧ o.isCells = false) ∧ W4.heap[l]? = some (.loop (rec (if jump.isNone then .ready else .done) jump)) ∧ W4.heap[D]? = some (.deferred (some [])) ∧ KKeeps K W W4 := fun jump W3 hk3 => by
      obtain ⟨k1, k2, k3, k4⟩ := rkeeps_putObj (l := l) hK (by omega) hlr W3 hk3
      have hl3 := k4 rfl
      have hd3 := k3 D _ (by omega) (by omega) hdr rfl
      have hr := run_endRound (P := P) jump hl3
      refine ⟨_, hr, by rw [hrec], ⟨_, hl3, rfl⟩, ?_, ?_, by simpa using k1, fun k hk => ?_⟩
      · rw [World.putObj_heap_same (Array.getElem?_eq_some_iff.1 hl3).1, hrec]
      · rw [World.putObj_heap_other (by omega)]; exact hd3
      · rw [World.putObj_heap_other (by have := hK k hk; omega)]; exact k2 k hk
    rintro e a3 W3 hp
    cases e with
    | normal =>
      obtain ⟨hk3, hi3⟩ := hp
      obtain ⟨W4, hr, hW4, ⟨o, ho, hoc⟩, hl4, hd4, hkk⟩ := fin none W3 hk3
      exact ⟨_, _, hr, .inl ⟨rfl, ⟨by rw [hW4]; exact hIb _ W3 l o _ hi3 (by omega) ho hoc, (by rw [hrec] at hl4; exact hl4), hd4⟩, hkk⟩⟩
    | ret =>
      obtain ⟨hk3, hi3⟩ := hp
      obtain ⟨W4, hr, hW4, ⟨o, ho, hoc⟩, hl4, hd4, hkk⟩ := fin (some .ret) W3 hk3
      exact ⟨_, _, hr, .inr ⟨rfl, ⟨.ret, by rw [hW4]; exact hIxb _ _ W3 l o _ hi3 (by omega) ho hoc, (by rw [hrec] at hl4; exact hl4), hd4⟩, hkk⟩⟩
    | exit id =>
      obtain ⟨hk3, hi3⟩ := hp
      obtain ⟨W4, hr, hW4, ⟨o, ho, hoc⟩, hl4, hd4, hkk⟩ := fin (some (.exit id)) W3 hk3
      exact ⟨_, _, hr, .inr ⟨rfl, ⟨.exit id, by rw [hW4]; exact hIxb _ _ W3 l o _ hi3 (by omega) ho hoc, (by rw [hrec] at hl4; exact hl4), hd4⟩, hkk⟩⟩
    | goto t =>
      obtain ⟨hk3, hi3⟩ := hp
      obtain ⟨W4, hr, hW4, ⟨o, ho, hoc⟩, hl4, hd4, hkk⟩ := fin (some (.goto t)) W3 hk3
      exact ⟨_, _, hr, .inr ⟨rfl, ⟨.goto t, by rw [hW4]; exact hIxb _ _ W3 l o _ hi3 (by omega) ho hoc, (by rw [hrec] at hl4; exact hl4), hd4⟩, hkk⟩⟩
    | panic ch => exact hp.elim
    | outgrown => exact hp.elim
  · -- behind the iterator
    rintro e W2 ⟨⟨v, rfl⟩, (⟨xs, hS, hi, hlr, hdr⟩ | ⟨pre, hSp, c, hi, hlr, hdr⟩)⟩
    · have hend := run_endLoop (P := P) hlr (by rw [hrec]; simp)
      have hp : (rec .ready none).pending = none := by rw [hrec]
      rw [hp] at hend
      exact ⟨none, _, hend, hdone _ xs _ (Nat.le_refl _) hS (hIb xs W2 l _ _ hi (by omega) hlr rfl) ((World.putObj_heap_other (by omega)).trans (by rw [← hD]; exact hdr))⟩
    · have hend := run_endLoop (P := P) hlr (by rw [hrec]; simp)
      have hp : (rec .done (some c)).pending = some c := by rw [hrec]
      rw [hp] at hend
      exact ⟨some c, _, hend, hstop _ c pre _ (Nat.le_refl _) hSp (hIxb c pre W2 l _ _ hi (by omega) hlr rfl) ((World.putObj_heap_other (by omega)).trans (by rw [← hD]; exact hdr))⟩
end Go.Proofs.Ytcoilgfjabnoeaa
