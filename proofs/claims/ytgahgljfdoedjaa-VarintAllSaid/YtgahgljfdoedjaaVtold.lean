/- tabulariumlaw04.told: the numbers that varint.All tells, as far as so many. -/
import Derived.Test.YtgahgljfdoedjaaVall
namespace Go.Proofs.Ytgahgljfdoedjaa
open Go.RowKit

attribute [local go_sem] Oper.semAt_some

theorem run_equalIn_func_nil {P : Program} (w : World) (d : Nat) {t : TypeId} {ps rs : Array TypeId} {v : Bool} (ht : P.underlying t = some (.func ps rs v)) (f : Fn) (a c : Array Value) :
    (Op.equalIn (d + 1) t (.func f a c) .nilFunc).run P w = .ok false w := by
  simp [Op.equalIn, run_underlying ht]
theorem run_neq_func_nil {P : Program} (w : World) {t : TypeId} {ps rs : Array TypeId} {v : Bool} (ht : P.underlying t = some (.func ps rs v)) (f : Fn) (a c : Array Value) :
    (binOp .neq t (.func f a c) .nilFunc).run P w = .ok (.bool true) w := by
  simp only [binOp]
  simp [Op.equal, Op.maxDepth, run_equalIn_func_nil w 9999 ht f a c]

theorem boxed_ext {T : Nat → Prop} {A B : World} {b : Nat} {t : TypeId} {v : Value} (h : Boxed A b t v) (he : Ext T A B) (hT : ¬ T b) : Boxed B b t v := (he.block b h.lt hT).trans h
theorem boxed_putObj {A : World} {b l : Nat} {t : TypeId} {v : Value} {o o' : Obj} (h : Boxed A b t v) (hl : A.heap[l]? = some o) (ho : o.isCells = false) : Boxed (A.putObj l o') b t v := by
  have hne : b ≠ l := by
    rintro rfl
    rw [show A.heap[b]? = _ from h] at hl
    cases hl; cases ho
  exact (World.putObj_heap_other hne).trans h
theorem ownsRow_ext {T : Nat → Prop} {A B : World} {base : Nat} {e : TypeId} {sz : Nat} {v : Value} {k : Nat} {xs : List Value} (h : A.ownsRow base e sz v k xs) (he : Ext T A B) (hT : ∀ g, v.ownBlock = some g → ¬ T g) : B.ownsRow base e sz v k xs := by
  refine ⟨h.1, ?_⟩
  rcases h.2 with h0 | ⟨g, cap, cur, rfl, hb, hg, rest⟩
  · exact .inl h0
  · exact .inr ⟨g, cap, cur, rfl, hb, by rw [he.block g (Array.getElem?_eq_some_iff.1 hg).1 (hT g rfl)]; exact hg, rest⟩
theorem below_ext {T : Nat → Prop} {n₀ : Nat} {w A B : World} (h : Below n₀ w A) (he : Ext T A B) (hT : ∀ k, T k → n₀ ≤ k) (hn : n₀ ≤ w.heap.size) : Below n₀ w B :=
  h.trans ⟨he.os, he.tape, he.output, he.size, fun k hk => he.block k (by have := h.size; omega) (fun ht => by have := hT k ht; omega)⟩
theorem below_putObj {n₀ : Nat} {w A : World} {l : Nat} {o : Obj} (h : Below n₀ w A) (hl : n₀ ≤ l) : Below n₀ w (A.putObj l o) :=
  h.trans ⟨rfl, rfl, rfl, by simp, fun k hk => World.putObj_heap_other (by omega)⟩

theorem vallfn_any (A : Option Addr) (m c : Nat) (w : World) : Calls Try.prog 20 #[.slice A m c] w fun e w' => e = .returned (.func (.func 21) #[] #[.pointer (some ⟨w.heap.size, 0, none⟩)]) ∧ w.alloc (.cells #[.slice A m c] 23) = w' := by
  go_enter Try.func20, Try.ntmps20
  go_wp2
  go_ret
  exact ⟨rfl, rfl⟩

theorem infoU64 : (Try.prog.info? 22).map (fun i => (i.zero, i.size, i.bytes)) = some (some (.int .u64 0), 1, 8) := by kernel_rfl

/-- What is between two rounds. -/
def ToldI (w : World) (most : Nat) (pre : List Nat) (W : World) : Prop :=
  pre.length ≤ most ∧ Boxed W w.heap.size 3 (.int .i64 most) ∧
  (∃ A' c', Boxed W (w.heap.size + 1) 38 (.slice A' pre.length c') ∧ W.ownsRow w.heap.size 22 1 (.slice A' pre.length c') pre.length (nval .u64 pre) ∧ (Value.slice A' pre.length c').ownBlock ≠ some (w.heap.size + 1 + 1)) ∧
  Below w.heap.size w W ∧ w.heap.size + 1 + 1 < W.heap.size

theorem ToldI.ext {w : World} {most : Nat} {pre : List Nat} {A B : World} (h : ToldI w most pre A) (he : Ext (fun k => k = w.heap.size + 1 + 1) A B) : ToldI w most pre B := by
  obtain ⟨h1, h2, ⟨A', c', h3, h4, h5⟩, h6, h7⟩ := h
  exact ⟨h1, boxed_ext h2 he (by omega), ⟨A', c', boxed_ext h3 he (by omega), ownsRow_ext h4 he (fun g hg e => h5 (by rw [hg, e])), h5⟩, below_ext h6 he (fun k hk => by omega) (Nat.le_refl _), Nat.lt_of_lt_of_le h7 he.size⟩
theorem ToldI.putObj {w : World} {most : Nat} {pre : List Nat} {A : World} {l : Nat} {o o' : Obj} (h : ToldI w most pre A) (hl : A.heap[l]? = some o) (ho : o.isCells = false) (hlw : w.heap.size ≤ l) : ToldI w most pre (A.putObj l o') := by
  obtain ⟨h1, h2, ⟨A', c', h3, h4, h5⟩, h6, h7⟩ := h
  exact ⟨h1, boxed_putObj h2 hl ho, ⟨A', c', boxed_putObj h3 hl ho, ownsRow_putObj h4 _ hl ho, h5⟩, below_putObj h6 hlw, by simpa using h7⟩

/-- A round has left by a break. -/
def ToldX (w : World) (most : Nat) (c : Code) (pre : List Nat) (W : World) : Prop := c = .exit 0 ∧ ∃ pre' x, pre = pre' ++ [x] ∧ pre'.length = most ∧ ToldI w most pre' W
theorem nval_snoc (k : IntKind) (l : List Nat) (x : Nat) : nval k (l ++ [x]) = nval k l ++ [.int k x] := by simp [nval]

set_option maxRecDepth 100000 in
set_option maxHeartbeats 1000000 in
theorem vtold_any (l : List UInt8) (A : Option Addr) (m c most : Nat) (w : World) (hb : Bs w A m c l) (hmost : most ≤ 100000) :
    Calls Try.prog 16 #[.slice A m c, .int .i64 most] w (Owned w 22 (nval .u64 ((Var.all l).take most))) := by
  obtain ⟨i0, hi, hz0, hz1, hz2⟩ := info_parts infoU64
  have hnil := fun w f a c => run_neq_func_nil (P := Try.prog) w Try.underlying46 f a c
  refine (callsIn_wide (n := 5)).1 ?_
  refine callsIn_of_wp_marks Try.func16 rfl trivial ?_ rfl
  simp only [Try.ntmps16, List.size_toArray, List.length_cons, List.length_nil, Nat.reduceAdd, Nat.reduceSub, Array.replicate_succ, Array.replicate_zero, List.push_toArray, List.append_toArray, List.nil_append, List.cons_append]
  gi_wp2_with (refine ⟨trivial, ?_⟩; gi_at_call 20; refine (callsIn_wide.2 (vallfn_any _ _ _ _)).mono ?_; rintro e w3 ⟨rfl, rfl⟩)
  have bm : Boxed (((w.alloc (.cells #[.int .i64 most] 3)).alloc (.cells #[.slice none 0 0] 38)).alloc (.cells #[.slice A m c] 23)) w.heap.size 3 (.int .i64 most) := ((Boxed.new w _ _).alloc _).alloc _
  have bo : Boxed (((w.alloc (.cells #[.int .i64 most] 3)).alloc (.cells #[.slice none 0 0] 38)).alloc (.cells #[.slice A m c] 23)) (w.heap.size + 1) 38 (.slice none 0 0) := by
    have := (Boxed.new (w.alloc (.cells #[.int .i64 most] 3)) 38 (.slice none 0 0)).alloc (.cells #[.slice A m c] 23)
    rwa [World.size_alloc] at this
  have bx : Boxed (((w.alloc (.cells #[.int .i64 most] 3)).alloc (.cells #[.slice none 0 0] 38)).alloc (.cells #[.slice A m c] 23)) (w.heap.size + 1 + 1) 23 (.slice A m c) := by
    have := Boxed.new ((w.alloc (.cells #[.int .i64 most] 3)).alloc (.cells #[.slice none 0 0] 38)) 23 (.slice A m c)
    rwa [World.size_alloc, World.size_alloc] at this
  have hB0 : Below w.heap.size w (((w.alloc (.cells #[.int .i64 most] 3)).alloc (.cells #[.slice none 0 0] 38)).alloc (.cells #[.slice A m c] 23)) :=
    (((Below.refl _ w).alloc (Nat.le_refl _) _).alloc (by simp) _).alloc (by simp; omega) _
  have hsz0 : (((w.alloc (.cells #[.int .i64 most] 3)).alloc (.cells #[.slice none 0 0] 38)).alloc (.cells #[.slice A m c] 23)).heap.size = w.heap.size + 3 := by simp
  have hbA : ∀ ad, A = some ad → 0 < m → ad.block < w.heap.size := by
    intro ad e hm
    obtain ⟨ad', e1, hlt, _⟩ := hb.2.2.2 hm
    rw [e] at e1; cases e1; exact hlt
  generalize ((w.alloc (.cells #[.int .i64 most] 3)).alloc (.cells #[.slice none 0 0] 38)).alloc (.cells #[.slice A m c] 23) = W0 at bm bo bx hB0 hsz0 ⊢
  have hbW := hb.below hB0
  obtain ⟨db, hdb, hne, hK⟩ : ∃ db : Option Nat, (0 < m → ∀ ad, A = some ad → db = some ad.block) ∧ db ≠ some (w.heap.size + 1 + 1) ∧ ∀ k, VK (w.heap.size + 1 + 1) db k → k < w.heap.size ∨ k = w.heap.size + 1 + 1 := by
    rcases Nat.eq_zero_or_pos m with h0 | h0
    · exact ⟨none, fun h => by omega, by simp, fun k hk => by rcases hk with rfl | e; exact .inr rfl; cases e⟩
    · obtain ⟨ad, rfl⟩ := hb.addr h0
      have hlt := hbA ad rfl h0
      refine ⟨some ad.block, fun _ ad' e => by cases e; rfl, fun e => ?_, fun k hk => ?_⟩
      · have e2 := Option.some.inj e; omega
      · rcases hk with rfl | e
        · exact .inr rfl
        · have e2 := Option.some.inj e; exact .inl (by omega)
  refine wpIn_rangeFunc_T rfl (by omega) (gf := 21) (lb := #[.pointer (some ⟨w.heap.size + 1 + 1, 0, none⟩)]) rfl trivial (enters_of Try.func21 (by kernel_rfl) rfl)
    (vall_seq 4 (w.heap.size + 1 + 1) m c A l db W0 (by omega) bx hbW hdb hne) (fun k hk => by omega) (fun k hk => by have := hK k hk; omega) (fun _ => rfl)
    (ToldI w most) (ToldX w most) (fun s A B h he => h.ext he) (fun cc s A B h he => by obtain ⟨h1, p', x, h2, h3, h4⟩ := h; exact ⟨h1, p', x, h2, h3, h4.ext he⟩)
    (fun s A lb o o' h hlb ho hc => h.putObj ho hc (by omega)) (fun cc s A lb o o' h hlb ho hc => by obtain ⟨h1, p', x, h2, h3, h4⟩ := h; exact ⟨h1, p', x, h2, h3, h4.putObj ho hc (by omega)⟩)
    ⟨Nat.zero_le _, bm, ⟨none, 0, bo, World.ownsRow_nil _ _ _ _, by simp [Value.ownBlock]⟩, hB0, by omega⟩
    (fun x => { tmps := #[Value.slice A m c, Value.int IntKind.i64 ↑most, undef,
          Value.pointer (some { block := w.heap.size, off := 0 }), Value.slice none 0 0,
          Value.pointer (some { block := w.heap.size + 1, off := 0 }),
          Value.func (Fn.func 21) #[] #[Value.pointer (some { block := w.heap.size + 1 + 1, off := 0 })], .int .u64 x,
          Value.slice A m c,
          Value.func (Fn.func 21) #[] #[Value.pointer (some { block := w.heap.size + 1 + 1, off := 0 })],
          Value.func (Fn.func 21) #[] #[Value.pointer (some { block := w.heap.size + 1 + 1, off := 0 })],
          Value.bool true,
          Value.func (Fn.func 21) #[] #[Value.pointer (some { block := w.heap.size + 1 + 1, off := 0 })], .int .u64 x, undef,
          undef, undef, undef, undef, undef, undef, undef, undef], defers := [] }) ?assign ?body ?done ?stop
  case assign =>
    intro lp x W K' hK'
    gi_wp2
    exact hK'
  case body =>
    rintro lp pre x W ⟨hl, hbm, ⟨A', c', hbo, hrow, hnx⟩, hBW, hsW⟩
    have hcm := hbm.cell
    have hco := hbo.cell
    have hfo := hbo.frozen
    by_cases hlt : pre.length < most
    · gi_wp2_with (first
        | (gi_at_builtin
           refine wpListIn_append_rd _ rfl _ _ _ rfl w.heap.size 22 i0 _ 1 8 Try.underlying38 hi hz0 hz1 hz2 rfl (by omega) _ _ _ (hrow.alloc _) rfl _ 1 1 _ (Rd.new1 _ _ _) rfl (by simp [Value.oneCell']) (by unfold maxLen; omega) (by omega) (by have := hBW.size; simp; omega) _ rfl _ rfl ?_
           intro A4 c4 w4 hown4 hg4 hat4
           have happ := hbo.appended (v' := .slice A4 (pre.length + 1) c4) (by decide) hrow hBW.size (by omega) hown4 hg4
           have hc4 := happ.1.cell
           have hf4 := happ.1.frozen))
      obtain ⟨hv1, hv2, hv3, hv4, hv5⟩ := happ
      have hg5 : Ext (fun k => k = w.heap.size + 1 ∨ some k = (Value.slice A' pre.length c').ownBlock) W (w4.setCell ⟨w.heap.size + 1, 0, none⟩ (.slice A4 (pre.length + 1) c4)) :=
        (((Ext.refl _ W).alloc _).trans (.of_grown hg4 (fun r e => .inr e.symm))).setCell (.inl rfl) _
      have hbm4 : Boxed (w4.setCell ⟨w.heap.size + 1, 0, none⟩ (.slice A4 (pre.length + 1) c4)) w.heap.size 3 (.int .i64 most) :=
        ((hbm.alloc _).kept hg4 (hbm.not_row (by decide) hrow)).other (by omega) _
      refine ⟨⟨hg5.size, fun k hk => ?_, fun k o hk ho hc => hv4.same k o ho hc⟩, by simp; omega, hbm4, ⟨A4, c4, by simpa using hv2, by rw [nval_snoc]; simpa using hv3, ?_⟩, hBW.trans hv5, by have := hg5.size; omega⟩
      · rcases hK k hk with h | rfl
        · exact hv5.block k h
        · exact hg5.block _ hsW (fun h => by rcases h with h | h; omega; exact hnx h.symm)
      · intro e
        rw [List.length_append] at e
        have e2 : (Value.slice A4 (pre.length + 1) c4).ownBlock = some (w.heap.size + 1 + 1) := e
        rcases hat4 with h | h
        · rw [h] at e2; exact hnx e2
        · rw [h] at e2
          have e3 := Option.some.inj e2
          simp at e3
          omega
    · gi_wp2
      exact ⟨RKeeps.refl _ _ _, rfl, pre, x, rfl, by omega, hl, hbm, ⟨A', c', hbo, hrow, hnx⟩, hBW, hsW⟩
  case done =>
    rintro D xs W hD rfl ⟨hl, hbm, ⟨A', c', hbo, hrow, hnx⟩, hBW, hsW⟩ hd
    have hco := hbo.cell
    gi_wp2
    refine ⟨by simp, .inl ⟨_, _, rfl, run_takeDeferred hd, ?_⟩⟩
    refine ⟨_, results_tmp rfl _ _ _, A', _, c', rfl, ?_, below_putObj hBW (by omega)⟩
    rw [List.take_of_length_le hl]
    exact ownsRow_putObj hrow _ hd rfl
  case stop =>
    rintro D cc pre W hD hSp ⟨rfl, pre', x, rfl, hlen, hl, hbm, ⟨A', c', hbo, hrow, hnx⟩, hBW, hsW⟩ hd
    have hco := hbo.cell
    gi_wp2
    refine ⟨by simp, .inl ⟨_, _, rfl, run_takeDeferred hd, ?_⟩⟩
    refine ⟨_, results_tmp rfl _ _ _, A', _, c', rfl, ?_, below_putObj hBW (by omega)⟩
    have e : (Var.all l).take most = pre' := by
      obtain ⟨t, ht⟩ := hSp
      rw [← ht, ← hlen, List.append_assoc, List.take_left]
    rw [e]
    have h5 := ownsRow_putObj hrow (.deferred none) hd rfl
    rw [hlen] at h5
    exact h5
end Go.Proofs.Ytgahgljfdoedjaa
