/- tabulariumlaw02.told: the scalars that utf.All tells, as far as so many; utf.Count. -/
import Derived.Test.YtikelcbceoilpaaDoorUw4
namespace Go.Proofs.YtikelcbceoilpaaDoor
open Go.RowKit

attribute [local go_sem] Oper.semAt_some

/-- Scalars and their places, as cells. -/
def sval (l : List (Nat × Nat)) : List Value := l.flatMap fun x => [.int .i64 x.1, .int .i64 x.2]
theorem sval_append (a b : List (Nat × Nat)) : sval (a ++ b) = sval a ++ sval b := by simp [sval]
theorem sval_snoc (l : List (Nat × Nat)) (x : Nat × Nat) : sval (l ++ [x]) = sval l ++ [.int .i64 x.1, .int .i64 x.2] := by simp [sval]
theorem sval_length (l : List (Nat × Nat)) : (sval l).length = l.length * 2 := by
  induction l with
  | nil => rfl
  | cons x l ih => simp only [sval, List.flatMap_cons, List.length_append, List.length_cons, List.length_nil] at ih ⊢; omega
theorem sval_get {l : List (Nat × Nat)} {k : Nat} (h : k < l.length) : (sval l)[k * 2]? = some (.int .i64 (l[k].1 : Int)) ∧ (sval l)[k * 2 + 1]? = some (.int .i64 (l[k].2 : Int)) := by
  induction l generalizing k with
  | nil => simp at h
  | cons x l ih =>
    cases k with
    | zero => exact ⟨rfl, rfl⟩
    | succ k =>
      have := ih (k := k) (by simpa using h)
      have e : sval (x :: l) = (.int .i64 x.1) :: (.int .i64 x.2) :: sval l := rfl
      rw [e, show (k + 1) * 2 = k * 2 + 1 + 1 by omega]
      simpa using this

/-- A call that makes a slice of its own, its elements of sz cells each. -/
def OwnedS (w : World) (t : TypeId) (sz : Nat) (xs : List Value) (e : Ending) (w' : World) : Prop :=
  ∃ A n c, e = .returned (.slice A n c) ∧ w'.ownsRow w.heap.size t sz (.slice A n c) n xs ∧ Below w.heap.size w w'

/-- A new block that holds one element. -/
theorem Rd.newE (w : World) (e : TypeId) (cs : List Value) (sz : Nat) (hl : cs.length = sz) : Rd (w.alloc (.cells cs.toArray e)) sz (some ⟨w.heap.size, 0, none⟩) 1 1 cs := by
  refine ⟨by omega, Nat.le_refl _, by simp [maxLen], fun _ => ⟨_, rfl, by simp, fun j u hu => ?_⟩⟩
  have hadd : (⟨w.heap.size, 0, none⟩ : Addr).add j = ⟨w.heap.size, j, none⟩ := by unfold Addr.add; split <;> simp_all
  rw [hadd, cell_of_row _ w.heap.size j cs.toArray e (0, 0) (heap_alloc_new w _)]
  simpa using hu

theorem run_equalIn_func_nil {P : Program} (w : World) (d : Nat) {t : TypeId} {ps rs : Array TypeId} {v : Bool} (ht : P.underlying t = some (.func ps rs v)) (f : Fn) (a c : Array Value) :
    (Op.equalIn (d + 1) t (.func f a c) .nilFunc).run P w = .ok false w := by
  simp [Op.equalIn, run_underlying ht]
theorem run_neq_func_nil {P : Program} (w : World) {t : TypeId} {ps rs : Array TypeId} {v : Bool} (ht : P.underlying t = some (.func ps rs v)) (f : Fn) (a c : Array Value) :
    (binOp .neq t (.func f a c) .nilFunc).run P w = .ok (.bool true) w := by
  simp only [binOp]
  simp [Op.equal, Op.maxDepth, run_equalIn_func_nil w 9999 ht f a c]

theorem boxed_ext {T : Nat → Prop} {A B : World} {b : Nat} {t : TypeId} {v : Value} (h : Boxed A b t v) (he : Ext T A B) (hT : ¬ T b) : Boxed B b t v := (he.block b h.lt hT).trans h
theorem boxed_putObj {A : World} {b l : Nat} {t : TypeId} {v : Value} {o o' : Obj} (h : Boxed A b t v) (hl : A.heap[l]? = some o) (ho : o.isCells = false) : Boxed (A.putObj l o') b t v := by
  have hne : b ≠ l := by
    rintro rfl
    rw [show A.heap[b]? = _ from h] at hl
    cases hl; cases ho
  exact (World.putObj_heap_other hne).trans h
theorem ownsRow_ext {T : Nat → Prop} {A B : World} {base : Nat} {e : TypeId} {sz : Nat} {v : Value} {k : Nat} {xs : List Value} (h : A.ownsRow base e sz v k xs) (he : Ext T A B) (hT : ∀ g, v.ownBlock = some g → ¬ T g) : B.ownsRow base e sz v k xs := by
  refine ⟨h.1, ?_⟩
  rcases h.2 with h0 | ⟨g, cap, cur, rfl, hb, hg, rest⟩
  · exact .inl h0
  · exact .inr ⟨g, cap, cur, rfl, hb, by rw [he.block g (Array.getElem?_eq_some_iff.1 hg).1 (hT g rfl)]; exact hg, rest⟩
theorem below_ext {T : Nat → Prop} {n₀ : Nat} {w A B : World} (h : Below n₀ w A) (he : Ext T A B) (hT : ∀ k, T k → n₀ ≤ k) (hn : n₀ ≤ w.heap.size) : Below n₀ w B :=
  h.trans ⟨he.os, he.tape, he.output, he.size, fun k hk => he.block k (by have := h.size; omega) (fun ht => by have := hT k ht; omega)⟩
theorem below_putObj {n₀ : Nat} {w A : World} {l : Nat} {o : Obj} (h : Below n₀ w A) (hl : n₀ ≤ l) : Below n₀ w (A.putObj l o) :=
  h.trans ⟨rfl, rfl, rfl, by simp, fun k hk => World.putObj_heap_other (by omega)⟩

theorem infoS : (Tryd.prog.info? 30).map (fun i => (i.zero, i.size, i.bytes)) = some (some (.agg #[.int .i64 0, .int .i64 0]), 2, 16) := by kernel_rfl

/-- What is between two rounds. -/
def ToldI (w : World) (most : Nat) (pre : List (Nat × Nat)) (W : World) : Prop :=
  pre.length ≤ most ∧ Boxed W w.heap.size 3 (.int .i64 most) ∧
  (∃ A' c', Boxed W (w.heap.size + 1) 23 (.slice A' pre.length c') ∧ W.ownsRow w.heap.size 30 2 (.slice A' pre.length c') pre.length (sval pre)) ∧
  Below w.heap.size w W ∧ w.heap.size + 1 + 1 < W.heap.size

theorem ToldI.ext {w : World} {most : Nat} {pre : List (Nat × Nat)} {A B : World} (h : ToldI w most pre A) (he : Ext (fun _ => False) A B) : ToldI w most pre B := by
  obtain ⟨h1, h2, ⟨A', c', h3, h4⟩, h6, h7⟩ := h
  exact ⟨h1, boxed_ext h2 he (fun h => h), ⟨A', c', boxed_ext h3 he (fun h => h), ownsRow_ext h4 he (fun g hg e => e)⟩, below_ext h6 he (fun k hk => hk.elim) (Nat.le_refl _), Nat.lt_of_lt_of_le h7 he.size⟩
theorem ToldI.putObj {w : World} {most : Nat} {pre : List (Nat × Nat)} {A : World} {l : Nat} {o o' : Obj} (h : ToldI w most pre A) (hl : A.heap[l]? = some o) (ho : o.isCells = false) (hlw : w.heap.size ≤ l) : ToldI w most pre (A.putObj l o') := by
  obtain ⟨h1, h2, ⟨A', c', h3, h4⟩, h6, h7⟩ := h
  exact ⟨h1, boxed_putObj h2 hl ho, ⟨A', c', boxed_putObj h3 hl ho, ownsRow_putObj h4 _ hl ho⟩, below_putObj h6 hlw, by simpa using h7⟩

/-- A round has left by a break. -/
def ToldX (w : World) (most : Nat) (c : Code) (pre : List (Nat × Nat)) (W : World) : Prop := c = .exit 0 ∧ ∃ pre' x, pre = pre' ++ [x] ∧ pre'.length = most ∧ ToldI w most pre' W

/-- What the iterator wants kept: the table. -/
def UK (k : Nat) : Prop := k = 0

set_option maxRecDepth 100000 in
set_option maxHeartbeats 1000000 in
theorem told_any (l : List UInt8) (most : Nat) (w : World) (hF : Forms w) (hl : l.length ≤ 4611686018427387904) (hmost : most ≤ 100000) :
    Calls Tryd.prog 11 #[.string (str l), .int .i64 most] w (OwnedS w 30 2 (sval ((Utf.all l).take most))) := by
  obtain ⟨i0, hi, hz0, hz1, hz2⟩ := info_parts infoS
  have hnil := fun w f a c => run_neq_func_nil (P := Tryd.prog) w Tryd.underlying42 f a c
  refine (callsIn_wide (n := 5)).1 ?_
  refine callsIn_of_wp_marks Tryd.func11 rfl trivial ?_ rfl
  simp only [Tryd.ntmps11, List.size_toArray, List.length_cons, List.length_nil, Nat.reduceAdd, Nat.reduceSub, Array.replicate_succ, Array.replicate_zero, List.push_toArray, List.append_toArray, List.nil_append, List.cons_append]
  gi_wp2_with (refine ⟨trivial, ?_⟩; gi_at_call 20; refine (callsIn_wide.2 (uallfn_any _ _)).mono ?_; rintro e w3 ⟨rfl, rfl⟩)
  have bm : Boxed (((w.alloc (.cells #[.int .i64 most] 3)).alloc (.cells #[.slice none 0 0] 23)).alloc (.cells #[.string (str l)] 9)) w.heap.size 3 (.int .i64 most) := ((Boxed.new w _ _).alloc _).alloc _
  have bo : Boxed (((w.alloc (.cells #[.int .i64 most] 3)).alloc (.cells #[.slice none 0 0] 23)).alloc (.cells #[.string (str l)] 9)) (w.heap.size + 1) 23 (.slice none 0 0) := by
    have := (Boxed.new (w.alloc (.cells #[.int .i64 most] 3)) 23 (.slice none 0 0)).alloc (.cells #[.string (str l)] 9)
    rwa [World.size_alloc] at this
  have bx : Boxed (((w.alloc (.cells #[.int .i64 most] 3)).alloc (.cells #[.slice none 0 0] 23)).alloc (.cells #[.string (str l)] 9)) (w.heap.size + 1 + 1) 9 (.string (str l)) := by
    have := Boxed.new ((w.alloc (.cells #[.int .i64 most] 3)).alloc (.cells #[.slice none 0 0] 23)) 9 (.string (str l))
    rwa [World.size_alloc, World.size_alloc] at this
  have hB0 : Below w.heap.size w (((w.alloc (.cells #[.int .i64 most] 3)).alloc (.cells #[.slice none 0 0] 23)).alloc (.cells #[.string (str l)] 9)) :=
    (((Below.refl _ w).alloc (Nat.le_refl _) _).alloc (by simp) _).alloc (by simp; omega) _
  have hsz0 : (((w.alloc (.cells #[.int .i64 most] 3)).alloc (.cells #[.slice none 0 0] 23)).alloc (.cells #[.string (str l)] 9)).heap.size = w.heap.size + 3 := by simp
  generalize ((w.alloc (.cells #[.int .i64 most] 3)).alloc (.cells #[.slice none 0 0] 23)).alloc (.cells #[.string (str l)] 9) = W0 at bm bo bx hB0 hsz0 ⊢
  have hG := hF.1
  have hK : ∀ k, UK k → k < w.heap.size := by
    rintro k rfl
    exact hG
  refine wpIn_rangeFunc_T rfl (by omega) (gf := 25) (lb := #[.pointer (some ⟨w.heap.size + 1 + 1, 0, none⟩)]) rfl trivial (enters_of Tryd.func25 (by kernel_rfl) rfl)
    (uall_seq 4 (w.heap.size + 1 + 1) l (fun _ => False) UK W0 (by omega) bx (hF.below hB0) hl (fun k hk => hk)) (fun k hk => hk.elim) (fun k hk => by have := hK k hk; omega) (fun _ => rfl)
    (ToldI w most) (ToldX w most) (fun s A B h he => h.ext he) (fun cc s A B h he => by obtain ⟨h1, p', x, h2, h3, h4⟩ := h; exact ⟨h1, p', x, h2, h3, h4.ext he⟩)
    (fun s A lb o o' h hlb ho hc => h.putObj ho hc (by omega)) (fun cc s A lb o o' h hlb ho hc => by obtain ⟨h1, p', x, h2, h3, h4⟩ := h; exact ⟨h1, p', x, h2, h3, h4.putObj ho hc (by omega)⟩)
    ⟨Nat.zero_le _, bm, ⟨none, 0, bo, World.ownsRow_nil _ _ _ _⟩, hB0, by omega⟩
    (fun x => { tmps := #[Value.string (str l), Value.int IntKind.i64 ↑most, undef,
          Value.pointer (some { block := w.heap.size, off := 0 }), Value.slice none 0 0,
          Value.pointer (some { block := w.heap.size + 1, off := 0 }),
          Value.func (Fn.func 25) #[] #[Value.pointer (some { block := w.heap.size + 1 + 1, off := 0 })], .int .i64 x.1, .int .i64 x.2,
          Value.string (str l),
          Value.func (Fn.func 25) #[] #[Value.pointer (some { block := w.heap.size + 1 + 1, off := 0 })],
          Value.func (Fn.func 25) #[] #[Value.pointer (some { block := w.heap.size + 1 + 1, off := 0 })],
          Value.bool true,
          Value.func (Fn.func 25) #[] #[Value.pointer (some { block := w.heap.size + 1 + 1, off := 0 })], .int .i64 x.1, .int .i64 x.2, undef,
          undef, undef, undef, undef, undef, undef, undef, undef, undef, undef], defers := [] }) ?assign ?body ?done ?stop
  case assign =>
    intro lp x W K' hK'
    simp only [encS]
    gi_wp2
    exact hK'
  case body =>
    rintro lp pre x W ⟨hl, hbm, ⟨A', c', hbo, hrow⟩, hBW, hsW⟩
    have hcm := hbm.cell
    have hco := hbo.cell
    have hfo := hbo.frozen
    by_cases hlt : pre.length < most
    · gi_wp2_with (first
        | (gi_at_builtin
           refine wpListIn_append_rd _ rfl _ _ _ rfl w.heap.size 30 i0 _ 2 16 Tryd.underlying23 hi hz0 hz1 hz2 rfl (by omega) _ _ _ (hrow.alloc _) rfl _ 1 1 _ (Rd.newE _ _ [.int .i64 x.1, .int .i64 x.2] 2 rfl) rfl (by simp [Value.oneCell']) (by unfold maxLen; omega) (by omega) (by have := hBW.size; simp; omega) _ rfl _ rfl ?_
           intro A4 c4 w4 hown4 hg4 hat4
           have happ := hbo.appended (v' := .slice A4 (pre.length + 1) c4) (by decide) hrow hBW.size (by omega) hown4 hg4
           have hc4 := happ.1.cell
           have hf4 := happ.1.frozen))
      obtain ⟨hv1, hv2, hv3, hv4, hv5⟩ := happ
      have hg5 : Ext (fun k => k = w.heap.size + 1 ∨ some k = (Value.slice A' pre.length c').ownBlock) W (w4.setCell ⟨w.heap.size + 1, 0, none⟩ (.slice A4 (pre.length + 1) c4)) :=
        (((Ext.refl _ W).alloc _).trans (.of_grown hg4 (fun r e => .inr e.symm))).setCell (.inl rfl) _
      have hbm4 : Boxed (w4.setCell ⟨w.heap.size + 1, 0, none⟩ (.slice A4 (pre.length + 1) c4)) w.heap.size 3 (.int .i64 most) :=
        ((hbm.alloc _).kept hg4 (hbm.not_row (by decide) hrow)).other (by omega) _
      have hbb := hbm
      refine ⟨⟨hg5.size, fun k hk => ?_, fun k o hk ho hc => hv4.same k o ho hc⟩, by simp; omega, hbm4, ⟨A4, c4, by simpa using hv2, by rw [sval_snoc]; simpa using hv3⟩, hBW.trans hv5, by have := hg5.size; omega⟩
      exact hv5.block k (hK k hk)
    · gi_wp2
      exact ⟨RKeeps.refl _ _ _, rfl, pre, x, rfl, by omega, hl, hbm, ⟨A', c', hbo, hrow⟩, hBW, hsW⟩
  case done =>
    rintro D xs W hD rfl ⟨hl, hbm, ⟨A', c', hbo, hrow⟩, hBW, hsW⟩ hd
    have hco := hbo.cell
    gi_wp2
    refine ⟨by simp, .inl ⟨_, _, rfl, run_takeDeferred hd, ?_⟩⟩
    refine ⟨_, results_tmp rfl _ _ _, A', _, c', rfl, ?_, below_putObj hBW (by omega)⟩
    rw [List.take_of_length_le hl]
    exact ownsRow_putObj hrow _ hd rfl
  case stop =>
    rintro D cc pre W hD hSp ⟨rfl, pre', x, rfl, hlen, hl, hbm, ⟨A', c', hbo, hrow⟩, hBW, hsW⟩ hd
    have hco := hbo.cell
    gi_wp2
    refine ⟨by simp, .inl ⟨_, _, rfl, run_takeDeferred hd, ?_⟩⟩
    refine ⟨_, results_tmp rfl _ _ _, A', _, c', rfl, ?_, below_putObj hBW (by omega)⟩
    have e : (Utf.all l).take most = pre' := by
      obtain ⟨t, ht⟩ := hSp
      rw [← ht, ← hlen, List.append_assoc, List.take_left]
    rw [e]
    have h5 := ownsRow_putObj hrow (.deferred none) hd rfl
    rw [hlen] at h5
    exact h5
end Go.Proofs.YtikelcbceoilpaaDoor
