/- quote: plain. -/
import Derived.Test.YtpoameaaoapiiaaDoorQc
import Derived.Test.YtpoameaaoapiiaaDoorUw5a
namespace Go.Proofs.YtpoameaaoapiiaaDoor
open Go.RowKit

attribute [local go_sem] Oper.semAt_some

/-- What plain reads. -/
def Qt.plainP (l : List UInt8) (i : Nat) : Qt.Pt :=
  if Qt.bt l i < 32 then Qt.err 3 else if (Utf.next (l.drop i)).2 = 0 then Qt.err 7 else ⟨(l.drop i).take (Utf.next (l.drop i)).2, (Utf.next (l.drop i)).2, 0⟩

theorem Qrd.ext {T : Nat → Prop} {b i : Nat} {l : List UInt8} {A B : World} (h : Qrd b l i A) (he : Ext T A B) (hT : ¬ T b) : Qrd b l i B := (he.block b h.lt hT).trans h
theorem Qrd.putObj {b i : Nat} {l : List UInt8} {A : World} {n : Nat} {o o' : Obj} (h : Qrd b l i A) (hl : A.heap[n]? = some o) (ho : o.isCells = false) : Qrd b l i (A.putObj n o') := by
  have hne : b ≠ n := by
    rintro rfl
    rw [show A.heap[b]? = _ from h] at hl
    cases hl; cases ho
  exact (World.putObj_heap_other hne).trans h

set_option maxHeartbeats 1000000 in
set_option maxRecDepth 100000 in
theorem qplain_low (b i : Nat) (l : List UInt8) (w : World) (hR : Qrd b l i w) (hi : i < l.length) (hc : Qt.bt l i < 32) :
    Calls Tryd.prog 21 #[.pointer (some ⟨b, 0, none⟩)] w fun e w' => e = dies 3 ∧ QE b w w' := by
  have hR2 := hR.below ((Below.refl _ w).alloc (Nat.le_refl _) (.cells #[.pointer (some ⟨b, 0, none⟩)] 36))
  have bx := Boxed.new w 36 (.pointer (some ⟨b, 0, none⟩))
  have c0 := hR2.cell0
  have c1 := hR2.cell1
  have c2 := bx.cell
  have hix : nth l i = (Qt.bt l i : Int) := rfl
  have e1 : 0 ≤ (i : Int) ∧ (i : Int) < l.length := by omega
  have hd : decide ((32 : Int) ≤ (Qt.bt l i : Int)) = false := by simp; omega
  have hB : QE b w (w.alloc (.cells #[.pointer (some ⟨b, 0, none⟩)] 36)) := .of_below ((Below.refl _ w).alloc (Nat.le_refl _) _)
  generalize hW : w.alloc (.cells #[.pointer (some ⟨b, 0, none⟩)] 36) = W at *
  go_enter Tryd.func21, Tryd.ntmps21
  go_wp2
  clear hW
  go_still_tail 10, (by kernel_rfl)
  go_wp2_with fail
  refine (must_no' _ _ _ (by simp)).mono ?_
  rintro e w4 ⟨rfl, rfl⟩
  go_wp2
  exact ⟨rfl, rfl, hB.drew⟩

/-- What is between two rounds. -/
def PlI (b i : Nat) (l : List UInt8) (w : World) (pre : List (Nat × Nat)) (W : World) : Prop := pre = [] ∧ Qrd b l i W ∧ QE b w W ∧ Boxed W w.heap.size 36 (.pointer (some ⟨b, 0, none⟩))
def PlX (b i : Nat) (l : List UInt8) (w : World) (c : Code) (pre : List (Nat × Nat)) (W : World) : Prop := c = .exit 0 ∧ ∃ x, pre = [x] ∧ Qrd b l (i + (encI x.2).length) W ∧ QE b w W ∧ Boxed W w.heap.size 36 (.pointer (some ⟨b, 0, none⟩))

theorem QE_putObj {b : Nat} {w A : World} {n : Nat} {o : Obj} (h : QE b w A) (hn : w.heap.size ≤ n) : QE b w (A.putObj n o) :=
  ⟨h.os, h.tape, h.output, by simpa using h.size, fun k hk hb => (World.putObj_heap_other (by omega)).trans (h.block k hk hb)⟩
set_option maxHeartbeats 2000000 in
set_option maxRecDepth 100000 in
theorem qplain_go (b i : Nat) (l : List UInt8) (w : World) (hR : Qrd b l i w) (hF : Forms w) (hi : i < l.length) (hl : l.length ≤ 1000000000) (hc : ¬ Qt.bt l i < 32) (q : Qt.Pt)
    (hq : q = if (Utf.next (l.drop i)).2 = 0 then Qt.err 7 else ⟨(l.drop i).take (Utf.next (l.drop i)).2, (Utf.next (l.drop i)).2, 0⟩) :
    Calls Tryd.prog 21 #[.pointer (some ⟨b, 0, none⟩)] w (Qres b l w q (i + q.n)) := by
  refine (callsIn_wide (n := 5)).1 ?_
  refine callsIn_of_wp_marks Tryd.func21 rfl trivial ?_ rfl
  simp only [Tryd.ntmps21, List.size_toArray, List.length_cons, List.length_nil, Nat.reduceAdd, Nat.reduceSub, Array.replicate_succ, Array.replicate_zero, List.push_toArray, List.append_toArray, List.nil_append, List.cons_append]
  refine wpIn_wide.2 ?_
  have HQ := Lib.hid hq
  clear hq
  have hR2 := hR.below ((Below.refl _ w).alloc (Nat.le_refl _) (.cells #[.pointer (some ⟨b, 0, none⟩)] 36))
  have bx := Boxed.new w 36 (.pointer (some ⟨b, 0, none⟩))
  have c0 := hR2.cell0
  have c1 := hR2.cell1
  have c2 := bx.cell
  have hix : nth l i = (Qt.bt l i : Int) := rfl
  have e0 : (0 : Int) ≤ (i : Int) ∧ (i : Int) ≤ (l.length : Int) := by omega
  have e1 : 0 ≤ (i : Int) ∧ (i : Int) < l.length := by omega
  have hd : decide ((32 : Int) ≤ (Qt.bt l i : Int)) = true := by simp; omega
  have hB : QE b w (w.alloc (.cells #[.pointer (some ⟨b, 0, none⟩)] 36)) := .of_below ((Below.refl _ w).alloc (Nat.le_refl _) _)
  generalize hW : w.alloc (.cells #[.pointer (some ⟨b, 0, none⟩)] 36) = W at *
  go_wp2
  clear hW
  go_still_tail 10, (by kernel_rfl)
  go_wp2_with fail
  refine (must_yes' _ _ _ (by simp)).mono ?_
  rintro e w4 ⟨rfl, rfl⟩
  have hD := hR2.drew
  clear hix hd
  go_wp2_with fail
  refine (uallfn_any _ _).mono ?_
  rintro e w3 ⟨rfl, rfl⟩
  go_wp2
  have hD1 := hD.below ((Below.refl _ W.drew).alloc (Nat.le_refl _) (.cells #[.string (str (l.drop i))] 9))
  have hFW := forms_QE hF hR hB
  have hF1 := (hFW.alloc (.cells #[.string (str (l.drop i))] 9)).drew
  have hB1 : QE b w (W.alloc (.cells #[.string (str (l.drop i))] 9)).drew := (hB.trans (.of_below ((Below.refl _ W).alloc (Nat.le_refl _) _))).drew
  have bx1 : Boxed (W.alloc (.cells #[.string (str (l.drop i))] 9)).drew w.heap.size 36 (.pointer (some ⟨b, 0, none⟩)) := bx.alloc _
  have bs1 : Boxed (W.alloc (.cells #[.string (str (l.drop i))] 9)).drew W.heap.size 9 (.string (str (l.drop i))) := Boxed.new W _ _
  have hs1 : W.heap.size < (W.alloc (.cells #[.string (str (l.drop i))] 9)).drew.heap.size := by simp
  have hD2 : Qrd b l i (W.alloc (.cells #[.string (str (l.drop i))] 9)).drew := hD1
  generalize (W.alloc (.cells #[.string (str (l.drop i))] 9)).drew = W0 at hF1 hB1 bx1 bs1 hs1 hD2 ⊢
  clear hD1 hD c0 c1 c2 hFW
  have hne : 0 ≠ b := by
    rintro rfl
    have h2 := hF.2 2 (by omega)
    have := hR.cell0
    have h3 := hF.2 0 (by omega)
    rw [this] at h3; cases h3
  refine wpIn_wide.1 (wpIn_rangeFunc_T (n := 5) rfl (by omega) (gf := 40) (lb := #[.pointer (some ⟨W.heap.size, 0, none⟩)]) rfl trivial (enters_of Tryd.func40 (by kernel_rfl) rfl)
    (uall_seq 4 W.heap.size (l.drop i) (fun _ => False) UK W0 (by omega) bs1 hF1 (by simp; omega) (fun k hk => hk)) (fun k hk => hk.elim) (fun k hk => by rw [show k = _ from hk]; exact hF1.1) (fun _ => rfl)
    (PlI b i l w) (PlX b i l w)
    (fun s A B h he => ⟨h.1, h.2.1.ext he (fun h => h), h.2.2.1.trans ⟨he.os, he.tape, he.output, he.size, fun k hk _ => he.block k hk (fun h => h)⟩, boxed_ext h.2.2.2 he (fun h => h)⟩)
    (fun cc s A B h he => by obtain ⟨h1, x, h2, h3, h4, h5⟩ := h; exact ⟨h1, x, h2, h3.ext he (fun h => h), h4.trans ⟨he.os, he.tape, he.output, he.size, fun k hk _ => he.block k hk (fun h => h)⟩, boxed_ext h5 he (fun h => h)⟩)
    (fun s A lb o o' h hlb ho hc => ⟨h.1, h.2.1.putObj ho hc, QE_putObj h.2.2.1 (by have := hB1.size; omega), boxed_putObj h.2.2.2 ho hc⟩)
    (fun cc s A lb o o' h hlb ho hc => by obtain ⟨h1, x, h2, h3, h4, h5⟩ := h; exact ⟨h1, x, h2, h3.putObj ho hc, QE_putObj h4 (by have := hB1.size; omega), boxed_putObj h5 ho hc⟩)
    ⟨rfl, hD2, hB1, bx1⟩
    (fun x => { tmps := #[Value.pointer (some { block := b, off := 0 }), Value.pointer (some { block := w.heap.size, off := 0 }),
          Value.string { data := #[] }, Value.int IntKind.i64 ↑i, undef, .int .i64 x.2, undef, undef,
          Value.pointer (some { block := b, off := 0 }), Value.pointer (some { block := b, off := 0 }),
          Value.pointer (some { block := b, off := 0 }), Value.string (str l),
          Value.pointer (some { block := b, off := 0 }), Value.pointer (some { block := b, off := 0 }),
          Value.pointer (some { block := b, off := 1 }), Value.int IntKind.i64 ↑i, Value.int IntKind.u8 ↑(Qt.bt l i),
          Value.bool true, Value.tuple #[], Value.pointer (some { block := b, off := 0 }),
          Value.pointer (some { block := b, off := 0 }), Value.pointer (some { block := b, off := 1 }),
          Value.int IntKind.i64 ↑i, Value.pointer (some { block := b, off := 0 }),
          Value.pointer (some { block := b, off := 0 }), Value.pointer (some { block := b, off := 0 }),
          Value.string (str l), Value.int IntKind.i64 ↑i, Value.string (str (List.drop i l)),
          Value.func (Fn.func 40) #[] #[Value.pointer (some { block := W.heap.size, off := 0 })], .int .i64 x.1, .int .i64 x.2,
          undef, undef, undef, undef, undef, undef, undef, undef, undef, undef, undef, undef, undef, undef, undef, undef, undef, undef, undef, undef, undef, undef, undef, undef, undef, undef, undef, undef, undef, undef, undef], defers := [] }) ?assign ?body ?done ?stop)
  case assign =>
    intro lp x W K' hK'
    simp only [encS]
    gi_wp2
    exact hK'
  case body =>
    rintro lp pre x W2 ⟨rfl, hRW, hBW, hxW⟩
    have hFx := forms_QE hF hR hBW
    have hput := utfput_any x.2 W2 hFx
    have hen : ((encI x.2).length : Int) ≤ 4 := by have := Utf.enc_length_le x.2; rw [encI_nat]; omega
    have hcx := hxW.cell
    have hw : IntKind.i64.wrap ((i : Int) + ((encI x.2).length : Int)) = ((i + (encI x.2).length : Nat) : Int) := by rw [IntWalk.i64_in _ (by omega)]; omega
    gi_wp2_with (refine ⟨trivial, ?_⟩; gi_at_call 32; refine (show CallsIn (Fence.wide.inRound lp) _ _ _ _ _ _ from callsIn_wide.2 hput).mono ?_; rintro e w3 ⟨rfl, hB3⟩; have hR3 := hRW.below hB3; have g0 := hR3.cell1; have g1 := hR3.frozen 1; have hx3 : Boxed w3 w.heap.size 36 (.pointer (some ⟨b, 0, none⟩)) := (hB3.block _ hxW.lt).trans hxW; have g2 := hx3.cell)
    have hbx : w.heap.size ≠ b := fun e => by have := hR.lt; omega
    have hE : Ext (fun k => k = b) W2 (w3.setCell ⟨b, 1, none⟩ (.int .i64 ((i + (encI x.2).length : Nat) : Int))) := Ext.setCell (T := fun k => k = b) (p := ⟨b, 1, none⟩) (Ext.of_below hB3) rfl _
    refine ⟨RKeeps.of_ext hE (fun k hk => by rw [show k = _ from hk]; exact ⟨hFx.1, hne⟩) (fun k hk o ho => by subst hk; unfold Qrd at hRW; rw [hRW] at ho; cases ho; exact .inl rfl), rfl, x, rfl, hR3.set _, hBW.trans hE, (hE.block _ hxW.lt hbx).trans hxW⟩
  case done =>
    rintro D xs W2 hDs hxs ⟨h0, hRW, hBW, hxW⟩ hd
    have hz : (Utf.next (l.drop i)).2 = 0 := by
      refine Decidable.byContradiction fun hn => ?_
      rw [h0] at hxs
      unfold Utf.all at hxs
      rw [Utf.scan_ok hn] at hxs
      cases hxs
    have HQ2 : Hid (q = Qt.err 7) := by unfold Hid; rw [HQ.out, if_pos hz]
    have g0 := hRW.cell1
    have g2 := hxW.cell
    clear hxs h0 hz HQ hF1 hD2 bx1 bs1 hB1
    go_wp2_with fail
    refine (must_no' _ _ _ (by simp)).mono ?_
    rintro e w4 ⟨rfl, rfl⟩
    go_wp2
    refine ⟨by simp, .inl ⟨_, _, rfl, run_takeDeferred hd, ?_⟩⟩
    exact Qres.no HQ2 (by decide) (QE_putObj hBW (by have := hB.size; omega))
  case stop =>
    rintro D cc pre W2 hDs hSp ⟨rfl, x, rfl, hRW, hBW, hxW⟩ hd
    have hnz : (Utf.next (l.drop i)).2 ≠ 0 := by
      intro hz
      unfold Utf.all at hSp
      rw [Utf.scan_no hz] at hSp
      exact absurd (List.prefix_nil.1 hSp) (by simp)
    obtain ⟨c, n, hcn⟩ : ∃ c n, Utf.next (l.drop i) = (c, n) := ⟨_, _, rfl⟩
    obtain ⟨hsc, htk, hlen, hle⟩ := Utf.next_some hcn (by rw [hcn] at hnz; exact hnz)
    have hx2 : encI x.2 = Utf.enc c := by
      unfold Utf.all at hSp
      rw [Utf.scan_ok hnz, hcn] at hSp
      obtain ⟨t, ht⟩ := hSp
      cases ht
      exact encI_nat _
    rw [hx2, ← hlen] at hRW
    have HQ2 : Hid (q = ⟨(l.drop i).take n, n, 0⟩) := by unfold Hid; rw [HQ.out, if_neg hnz, hcn]
    have hn0 : 0 < n := by rw [hcn] at hnz; exact Nat.pos_of_ne_zero hnz
    have hle2 : i + n ≤ l.length := by rw [List.length_drop] at hle; omega
    have g0 := hRW.cell0
    have g1 := hRW.cell1
    have g2 := hxW.cell
    have hsum : ((i + n : Nat) : Int) = (i : Int) + n := by omega
    rw [hsum] at g1
    have hgt : decide ((i : Int) < (i : Int) + n) = true := by simp; omega
    have e3 : 0 ≤ (i : Int) ∧ (i : Int) ≤ (i : Int) + n ∧ (i : Int) + n ≤ l.length := by omega
    have e4 : ((i : Int) + n).toNat = i + n := by omega
    have e5 : i + n - i = n := by omega
    have hsl : ∀ W : World, (Instr.slice 9 (.string (str l)) (some (.int .i64 (i : Int))) (some (.int .i64 ((i : Int) + n))) none).run Tryd.prog W = .ok (.string (str ((l.drop i).take n))) W := fun W => by
      have h1 := run_slice_str W 9 l .i64 .i64 (i : Int) ((i : Int) + n) Tryd.underlying9 e3
      rw [e4, Int.toNat_natCast, e5] at h1
      exact h1
    clear hSp hnz hcn hsc htk hlen hle hx2 HQ hF1 hD2 bx1 bs1 hB1 hsum e4 e5 e3
    refine wpIn_wide.2 ?_
    go_wp2_with fail
    refine (must_yes' _ _ _ (by first | rfl | (simp; done) | (simp; omega))).mono ?_
    rintro e w4 ⟨rfl, rfl⟩
    clear hgt
    go_wp2
    go_quiet (fail)
    go_wp2
    refine ⟨by simp, .inl ⟨_, _, rfl, run_takeDeferred (show (World.drewN W2 _).heap[D]? = _ from hd), ?_⟩⟩
    refine ⟨_, results_tmp rfl _ _ _, ?_⟩
    exact Qres.yes HQ2 (QE_putObj (hBW.trans (.of_below (below_drewN_self _ _ _))) (by have := hB.size; omega)) (by
      rw [HQ2.out]
      exact (hRW.below (below_drewN_self _ _ _)).putObj hd rfl)

theorem qplain_any (b i : Nat) (l : List UInt8) (w : World) (hR : Qrd b l i w) (hF : Forms w) (hi : i < l.length) (hl : l.length ≤ 1000000000) :
    Calls Tryd.prog 21 #[.pointer (some ⟨b, 0, none⟩)] w (Qres b l w (Qt.plainP l i) (i + (Qt.plainP l i).n)) := by
  by_cases hc : Qt.bt l i < 32
  · refine (qplain_low b i l w hR hi hc).mono ?_
    rintro e w' ⟨rfl, hE⟩
    have hq : Qt.plainP l i = Qt.err 3 := by unfold Qt.plainP; rw [if_pos hc]
    rw [hq]
    exact ⟨hE, .inr ⟨by decide, rfl⟩⟩
  · exact qplain_go b i l w hR hF hi hl hc _ (by unfold Qt.plainP; rw [if_neg hc])
end Go.Proofs.YtpoameaaoapiiaaDoor
