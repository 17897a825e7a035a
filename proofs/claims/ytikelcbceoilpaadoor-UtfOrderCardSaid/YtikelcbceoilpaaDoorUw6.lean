/- utf.Count: how many scalars a text has. -/
import Derived.Test.YtikelcbceoilpaaDoorUw5
import Derived.Test.YtikelcbceoilpaaDoorUtf2
namespace Go.Proofs.YtikelcbceoilpaaDoor
open Go.RowKit

attribute [local go_sem] Oper.semAt_some

/-- What is between two rounds. -/
def CountI (w : World) (pre : List (Nat × Nat)) (W : World) : Prop := (∃ c : Int, Boxed W w.heap.size 3 (.int .i64 c) ∧ Hid (c = wrap64 (pre.length : Int))) ∧ Below w.heap.size w W
theorem wrap_succ (n : Nat) : wrap64 (wrap64 (n : Int) + 1) = wrap64 ((n + 1 : Nat) : Int) := by
  unfold wrap64; omega

theorem CountI.ext {w : World} {pre : List (Nat × Nat)} {A B : World} (h : CountI w pre A) (he : Ext (fun _ => False) A B) : CountI w pre B :=
  ⟨by obtain ⟨c, h1, h2⟩ := h.1; exact ⟨c, boxed_ext h1 he (fun h => h), h2⟩, below_ext h.2 he (fun _ hk => hk.elim) (Nat.le_refl _)⟩
theorem CountI.putObj {w : World} {pre : List (Nat × Nat)} {A : World} {l : Nat} {o o' : Obj} (h : CountI w pre A) (hl : A.heap[l]? = some o) (ho : o.isCells = false) (hlw : w.heap.size ≤ l) : CountI w pre (A.putObj l o') :=
  ⟨by obtain ⟨c, h1, h2⟩ := h.1; exact ⟨c, boxed_putObj h1 hl ho, h2⟩, below_putObj h.2 hlw⟩

set_option maxRecDepth 100000 in
set_option maxHeartbeats 1000000 in
theorem count_any (l : List UInt8) (w : World) (hF : Forms w) (hl : l.length ≤ 4611686018427387904) :
    Calls Tryd.prog 17 #[.string (str l)] w fun e w' => e = .returned (.tuple #[.int .i64 (if Utf.valid l = true then ((Utf.all l).length : Int) else 0), .bool (Utf.valid l)]) ∧ Below w.heap.size w w' := by
  have hlen : (Utf.all l).length ≤ l.length := Utf.all_length l
  obtain ⟨ans, hans⟩ : ∃ ans, ans = (if Utf.valid l = true then ((Utf.all l).length : Int) else 0) := ⟨_, rfl⟩
  rw [← hans]
  have HA := Lib.hid hans
  clear hans
  refine (callsIn_wide (n := 5)).1 ?_
  refine callsIn_of_wp_marks Tryd.func17 rfl trivial ?_ rfl
  simp only [Tryd.ntmps17, List.size_toArray, List.length_cons, List.length_nil, Nat.reduceAdd, Nat.reduceSub, Array.replicate_succ, Array.replicate_zero, List.push_toArray, List.append_toArray, List.nil_append, List.cons_append]
  gi_wp2_with (refine ⟨trivial, ?_⟩; gi_at_call 20; refine (callsIn_wide.2 (uallfn_any _ _)).mono ?_; rintro e w3 ⟨rfl, rfl⟩)
  have bm : Boxed ((w.alloc (.cells #[.int .i64 0] 3)).alloc (.cells #[.string (str l)] 9)) w.heap.size 3 (.int .i64 0) := (Boxed.new w _ _).alloc _
  have bx : Boxed ((w.alloc (.cells #[.int .i64 0] 3)).alloc (.cells #[.string (str l)] 9)) (w.heap.size + 1) 9 (.string (str l)) := by
    have := Boxed.new (w.alloc (.cells #[.int .i64 0] 3)) 9 (.string (str l))
    rwa [World.size_alloc] at this
  have hB0 : Below w.heap.size w ((w.alloc (.cells #[.int .i64 0] 3)).alloc (.cells #[.string (str l)] 9)) :=
    ((Below.refl _ w).alloc (Nat.le_refl _) _).alloc (by simp) _
  generalize (w.alloc (.cells #[.int .i64 0] 3)).alloc (.cells #[.string (str l)] 9) = W0 at bm bx hB0 ⊢
  have hG := hF.1
  have hs0 := hB0.size
  refine wpIn_rangeFunc_T rfl (by omega) (gf := 25) (lb := #[.pointer (some ⟨w.heap.size + 1, 0, none⟩)]) rfl trivial (enters_of Tryd.func25 (by kernel_rfl) rfl)
    (uall_seq 4 (w.heap.size + 1) l (fun _ => False) UK W0 (by omega) bx (hF.below hB0) hl (fun k hk => hk)) (fun k hk => hk.elim) (fun k hk => by cases hk; omega) (fun _ => rfl)
    (CountI w) (fun _ _ _ => False) (fun s A B h he => h.ext he) (fun _ _ _ _ h _ => h)
    (fun s A lb o o' h hlb ho hc => h.putObj ho hc (by omega)) (fun _ _ _ _ _ _ h _ _ _ => h)
    ⟨⟨0, bm, by unfold Hid wrap64; simp⟩, hB0⟩
    (fun x => { tmps := #[Value.string (str l), undef, Value.int IntKind.i64 0, Value.bool false, Value.pointer (some { block := w.heap.size, off := 0 }), Value.string (str l),
          Value.func (Fn.func 25) #[] #[Value.pointer (some { block := w.heap.size + 1, off := 0 })], .int .i64 x.1, .int .i64 x.2,
          undef, undef, undef, undef, undef, undef], defers := [] }) ?assign ?body ?done ?stop
  case assign =>
    intro lp x W K' hK'
    simp only [encS]
    gi_wp2
    simpa using hK'
  case body =>
    rintro lp pre x W ⟨⟨c, hbm, hc⟩, hBW⟩
    have hcm := hbm.cell
    have hfm := hbm.frozen
    gi_wp2
    have hE : Ext (fun k => k = w.heap.size) W (W.setCell ⟨w.heap.size, 0, none⟩ (.int .i64 (wrap64 (c + 1)))) := Ext.setCell (T := fun k => k = w.heap.size) (p := ⟨w.heap.size, 0, none⟩) (Ext.refl _ W) rfl _
    refine ⟨.of_ext hE (fun k hk => by cases hk; have := hBW.size; omega) (fun k hk o ho => ?_), ⟨_, hbm.set _, ?_⟩, ?_⟩
    · subst hk
      rw [show W.heap[w.heap.size]? = _ from hbm] at ho
      cases ho
      exact .inl rfl
    · unfold Hid
      rw [hc.out, wrap_succ, List.length_append]
      rfl
    · exact hBW.setCell (Nat.le_refl _) _
  case done =>
    rintro D xs W hD rfl ⟨⟨c, hbm, hc⟩, hBW⟩ hd
    have hcm := hbm.cell
    have hv := valid_any l W (hF.below hBW) hl
    have hcl : c = ((Utf.all l).length : Int) := by have := hc.out; rw [IntWalk.wrap64_in _ (by omega)] at this; exact this
    have HC := Lib.hid hcl
    clear hcl hc
    cases hvv : Utf.valid l
    · rw [hvv] at hv
      gi_wp2_with (refine ⟨trivial, ?_⟩; gi_at_call 15; refine (callsIn_wide.2 hv).mono ?_; rintro e w3 ⟨rfl, hB3⟩)
      have hd3 : w3.heap[D]? = some (.deferred (some [])) := (hB3.block D (Array.getElem?_eq_some_iff.1 hd).1).trans hd
      refine ⟨by simp, .inl ⟨_, _, rfl, run_takeDeferred hd3, ?_⟩⟩
      refine ⟨_, results_tmp2 rfl _ _ _, ?_, below_putObj (hBW.trans (hB3.mono hBW.size)) (by omega)⟩
      rw [HA.out, hvv]; rfl
    · rw [hvv] at hv
      gi_wp2_with (refine ⟨trivial, ?_⟩; gi_at_call 15; refine (callsIn_wide.2 hv).mono ?_; rintro e w3 ⟨rfl, hB3⟩; have hcm3 := (hB3.cell (p := ⟨w.heap.size, 0, none⟩) hbm.lt).trans hcm)
      have hd3 : w3.heap[D]? = some (.deferred (some [])) := (hB3.block D (Array.getElem?_eq_some_iff.1 hd).1).trans hd
      refine ⟨by simp, .inl ⟨_, _, rfl, run_takeDeferred hd3, ?_⟩⟩
      refine ⟨_, results_tmp2 rfl _ _ _, ?_, below_putObj (hBW.trans (hB3.mono hBW.size)) (by omega)⟩
      rw [HA.out, hvv, HC.out]; rfl
  case stop =>
    rintro D cc pre W hD hSp h hd
    exact h.elim
end Go.Proofs.YtikelcbceoilpaaDoor
