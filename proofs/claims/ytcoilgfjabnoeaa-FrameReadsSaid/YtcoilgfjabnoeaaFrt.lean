/- tabulariumref05.Split. -/
import Derived.Test.YtcoilgfjabnoeaaFrs
import Derived.Test.YtcoilgfjabnoeaaEls
namespace Go.Proofs.Ytcoilgfjabnoeaa
open Go.RowKit

theorem els_arg {w w' : World} {xs : List Value} {fs : List (List UInt8)} {B : Nat} (h : Els w xs fs (fun k => B ≤ k)) (hs : w.heap.size ≤ w'.heap.size) (hg : ∀ k, k < B → k < w.heap.size → w'.heap[k]? = w.heap[k]?) : Els w' xs fs (fun k => B ≤ k) :=
  h.keep hs (fun k hk hT => hg k (by omega) hk)

set_option maxRecDepth 1000000 in
set_option maxHeartbeats 4000000 in
theorem frrefsplit_any (l : List UInt8) (A : Option Addr) (n c : Nat) (w : World) (hb : Bs w A n c l) (hn : n ≤ 1000000) :
    Calls Try.prog 22 #[.slice A n c] w fun e w' => ∃ A2 n2 c2, e = .returned (.tuple #[.slice A2 n2 c2, .int .i64 ((Fr.split l).2 : Int)]) ∧ Bss w' A2 n2 c2 (Fr.split l).1 ∧ Below w.heap.size w w' := by
  have hl := hb.len
  have hA := hb.lt'
  have HL := Lib.hid (And.intro hl hA)
  have HM : Hid (Fr.more [] (Fr.split (l.drop 0)) = Fr.split l) := Fr.more_nil _ Fr.put_ok
  clear hl hA
  go_enter Try.func22, Try.ntmps22
  go_wp2
  go_loopg [4] n (fun g ov wr => ∃ (at' : Nat) (fs : List (List UInt8)) (xs : List Value) (A3 : Option Addr) (m c3 : Nat), ov = .slice A3 m c3 ∧ at' ≤ n ∧ m ≤ at' ∧ g = n - at' ∧
    Hid (wr.ownsRow w.heap.size 22 1 (.slice A3 m c3) m xs ∧ wr.heap[w.heap.size]? = some (.cells #[.slice A n c, .int .i64 (at' : Int), .int .i64 0] 52 (0, 0)) ∧ (∀ k, (Value.slice A3 m c3).ownBlock = some k → k ≠ w.heap.size) ∧ Els wr xs fs (fun k => w.heap.size ≤ k) ∧ Below w.heap.size w wr ∧ Fr.more fs (Fr.split (l.drop at')) = Fr.split l))
  case atStart =>
    exact ⟨0, [], [], none, 0, 0, rfl, by omega, by omega, by omega, own_nil_row _ _, by simpa using heap_alloc_new w _, by simp [Value.ownBlock], Els.nil _ _, (Below.refl _ _).alloc (Nat.le_refl _) _, HM.out⟩
  case round =>
    obtain ⟨at', fs, xs, A3, m, c3, rfl, hat, hm, hg, HK⟩ := hrel
    obtain ⟨k1, k2, k3, k4, k5, k6⟩ := HK.out
    have x0 : wr.cell? ⟨w.heap.size, 0, none⟩ = some (.slice A n c) := by rw [cell_of_row _ _ _ _ _ _ k2]; rfl
    have x1 : wr.cell? ⟨w.heap.size, 1, none⟩ = some (.int .i64 (at' : Int)) := by rw [cell_of_row _ _ _ _ _ _ k2]; rfl
    have x2 : wr.cell? ⟨w.heap.size, 2, none⟩ = some (.int .i64 0) := by rw [cell_of_row _ _ _ _ _ _ k2]; rfl
    have HG := Lib.hid hg
    clear hg
    by_cases hlt : at' < n
    · have hd : decide ((at' : Int) < (n : Int)) = true := by simp; omega
      have hne : l.drop at' ≠ [] := by
        intro h
        have h1 := congrArg List.length h
        have := HL.out.1
        simp at h1; omega
      have HNE := Lib.hid hne
      have hbr := hb.below k5
      have hsz := (Array.getElem?_eq_some_iff.1 k2).1
      haveI : Lt w.heap.size wr := ⟨hsz⟩
      clear hne
      go_wp2_with fail
      refine (frrefframe_yes l A n c at' 9223372036854775807 9223372036854775807 wr hbr hat hn rfl (by omega)).mono ?_
      rintro e w1 ⟨at2, A4, n4, c4, N, rfl, ha2, hdr, hb4, had4, hB1⟩
      generalize hf : Fr.frame (l.drop at') 9223372036854775807 = f at *
      have HF := Lib.hid hf
      have HB4 := Lib.hid (And.intro hb4 (And.intro had4 hdr))
      obtain ⟨d1, os1, rfl⟩ := later_of_below hB1
      unfold gotv
      clear hf hb4 had4 hdr hB1
      by_cases hz : f.2.1 = 0
      · have hd2 : ((f.2.1 : Int) != 0) = false := by rw [hz]; rfl
        have hnext : Hid (Fr.more (fs ++ [f.2.2]) (Fr.split f.1) = Fr.split l ∧ f.1.length < (l.drop at').length) := by
          have hz2 : (Fr.frame (l.drop at') 9223372036854775807).2.1 = 0 := by rw [HF.out]; exact hz
          have h1 := Fr.more_step fs HNE.out hz2
          have h2 := Fr.frame_rest hz2
          rw [HF.out] at h1 h2
          exact ⟨by rw [← h1]; exact k6, h2⟩
        have HZ := Lib.hid hz
        have K := Lib.hid (And.intro k1 (And.intro k2 (And.intro k3 (And.intro k4 k5))))
        have hsz5 := k5.size
        have hownk : (later wr d1 os1).ownsRow w.heap.size 22 1 (.slice A3 m c3) m xs := own_keep k1 (below_later _ _ _)
        have hbelk : Below w.heap.size w (later wr d1 os1) := below_later' k5 hsz5 _ _
        clear k1 k2 k3 k4 k5 k6 hz
        have hRd := fun w g hg => rd_new1_at w 22 (.slice A4 n4 c4) g hg
        go_wp2_with (
          (at_builtin
           refine wpList_app_row w rfl _ _ rfl w.heap.size xs [.slice A4 n4 c4] _ _ _ ((hownk.alloc _).alloc _) rfl _ _ _ (hRd _ _ (by simp)) rfl (by simp [Value.oneCell']) (by omega) (by simp; omega) ((hbelk.alloc (by simp; omega) _).alloc (by simp; omega) _) _ rfl _ rfl ?_
           intro A5 c5 w5 hown5 hB5 hg5 hlies
           have hX : w5.heap[wr.heap.size + os1.size]? = some (.cells #[.slice A n c, .int .i64 (at2 : Int), .int .i64 (f.2.1 : Int), .int .u64 N, .slice A4 n4 c4] 57 (0, 0)) := by
             rw [hg5.block _ (by simp; omega) (fun e => by have := (K.out.1.lt _ e.symm).2; omega), Below.heap_alloc _ _ _ (by simp)]
             have := heap_alloc_new (later wr d1 os1) (.cells #[.slice A n c, .int .i64 (at2 : Int), .int .i64 (f.2.1 : Int), .int .u64 N, .slice A4 n4 c4] 57)
             rw [later_size] at this
             exact this
           have hP : w5.heap[w.heap.size]? = some (.cells #[.slice A n c, .int .i64 (at' : Int), .int .i64 0] 52 (0, 0)) := by
             rw [hg5.block _ (by simp; omega) (fun e => K.out.2.2.1 _ e.symm rfl), Below.heap_alloc _ _ _ (by simp; omega), Below.heap_alloc _ _ _ (by simp; omega), later_block _ _ _ (by omega)]
             exact K.out.2.1
           have q0 : w5.cell? ⟨wr.heap.size + os1.size, 0, none⟩ = some (.slice A n c) := by rw [cell_of_row _ _ _ _ _ _ hX]; rfl
           have q1 : w5.cell? ⟨wr.heap.size + os1.size, 1, none⟩ = some (.int .i64 (at2 : Int)) := by rw [cell_of_row _ _ _ _ _ _ hX]; rfl
           have q2 : w5.cell? ⟨wr.heap.size + os1.size, 2, none⟩ = some (.int .i64 (f.2.1 : Int)) := by rw [cell_of_row _ _ _ _ _ _ hX]; rfl
           have p0 : w5.cell? ⟨w.heap.size, 0, none⟩ = some (.slice A n c) := by rw [cell_of_row _ _ _ _ _ _ hP]; rfl
           have p1 : w5.cell? ⟨w.heap.size, 1, none⟩ = some (.int .i64 (at' : Int)) := by rw [cell_of_row _ _ _ _ _ _ hP]; rfl
           have p2 : w5.cell? ⟨w.heap.size, 2, none⟩ = some (.int .i64 0) := by rw [cell_of_row _ _ _ _ _ _ hP]; rfl
           have r0 : w5.frozen? ⟨w.heap.size, 0, none⟩ = false := frozen_of_row _ _ _ _ _ hP
           have r1 : w5.frozen? ⟨w.heap.size, 1, none⟩ = false := frozen_of_row _ _ _ _ _ hP
           have r2 : w5.frozen? ⟨w.heap.size, 2, none⟩ = false := frozen_of_row _ _ _ _ _ hP
           have HX := Lib.hid hX
           have HP := Lib.hid hP
           clear hX hP))
        obtain ⟨n1, n2⟩ := hnext.out
        obtain ⟨b1, b2, b3⟩ := HB4.out
        obtain ⟨k1, k2, k3, k4, k5⟩ := K.out
        have hat2 : at' < at2 := by
          rw [← b3] at n2
          have := HL.out.1
          simp at n2; omega
        have hB6 := ((hB5.setCell (p := ⟨w.heap.size, 0, none⟩) (Nat.le_refl _) (.slice A n c)).setCell (p := ⟨w.heap.size, 1, none⟩) (Nat.le_refl _) (.int .i64 (at2 : Int))).setCell (p := ⟨w.heap.size, 2, none⟩) (Nat.le_refl _) (.int .i64 (f.2.1 : Int))
        have hlie : ∀ k, (Value.slice A5 (m + 1) c5).ownBlock = some k → k ≠ w.heap.size := fun k h => by
          rcases hlies with e | e
          · exact k3 k (e ▸ h)
          · rw [e] at h; cases h; simp; omega
        have hsz6 : wr.heap.size ≤ w5.heap.size := by have := hg5.size; simp at this; omega
        have hE6 := (els_arg k4 (w' := ((w5.setCell ⟨w.heap.size, 0, none⟩ (.slice A n c)).setCell ⟨w.heap.size, 1, none⟩ (.int .i64 (at2 : Int))).setCell ⟨w.heap.size, 2, none⟩ (.int .i64 (f.2.1 : Int))) (by simpa using hsz6) (fun k h1 h2 => (hB6.block k h1).trans (k5.block k h1).symm)).snoc
          (b1.keepT (T := fun k => w.heap.size ≤ k) (fun ad e hn => by obtain ⟨a0, e1, e2⟩ := b2 ad e hn; have := HL.out.2 a0 e1 (by omega); omega) (by simpa using hsz6) (fun k h1 h2 => (hB6.block k (by omega)).trans (k5.block k (by omega)).symm))
          (fun ad e hn => by obtain ⟨a0, e1, e2⟩ := b2 ad e hn; have := HL.out.2 a0 e1 (by omega); omega)
        have hown6 := ownsRow_setCell_other (ownsRow_setCell_other (ownsRow_setCell_other hown5 (a := ⟨w.heap.size, 0, none⟩) (fun e => hlie _ e rfl) (.slice A n c)) (a := ⟨w.heap.size, 1, none⟩) (fun e => hlie _ e rfl) (.int .i64 (at2 : Int))) (a := ⟨w.heap.size, 2, none⟩) (fun e => hlie _ e rfl) (.int .i64 (f.2.1 : Int))
        have hP6 : (((w5.setCell ⟨w.heap.size, 0, none⟩ (.slice A n c)).setCell ⟨w.heap.size, 1, none⟩ (.int .i64 (at2 : Int))).setCell ⟨w.heap.size, 2, none⟩ (.int .i64 (f.2.1 : Int))).heap[w.heap.size]? = some (.cells #[.slice A n c, .int .i64 (at2 : Int), .int .i64 0] 52 (0, 0)) := by
          rw [heap_setCell_same _ _ _ _ _ _ (heap_setCell_same _ _ _ _ _ _ (heap_setCell_same _ _ _ _ _ _ HP.out)), HZ.out]
          rfl
        go_roundg (n - at2)
        case rel => exact ⟨at2, fs ++ [f.2.2], xs ++ [.slice A4 n4 c4], A5, m + 1, c5, rfl, ha2, by omega, rfl, hown6, hP6, hlie, hE6, hB6, by rw [b3]; exact n1⟩
        case measure => have := HG.out; omega
      · have hd2 : ((f.2.1 : Int) != 0) = true := by rw [bne_iff_ne]; omega
        have HS : Hid (Fr.split l = ([], f.2.1)) := by
          unfold Hid
          rw [← k6, Fr.split_bad HNE.out (by rw [HF.out]; exact hz), HF.out]
          unfold Fr.more
          rw [if_pos hz]
        have K5 := Lib.hid k5
        clear k1 k3 k4 k5 k6 hz
        go_wp2
        go_quiet (fail)
        go_wp2
        go_ret2
        rw [HS.out]
        refine ⟨none, 0, 0, rfl, Bss.nil _, ?_⟩
        have k5 := K5.out
        have := k5.size
        (repeat' (first | (with_reducible exact Below.refl _ _) | (with_reducible assumption) | (with_reducible refine below_later' ?_ ?_ _ _) | (with_reducible refine Below.alloc ?_ ?_ _) | (with_reducible refine Below.setCell ?_ ?_ _) | (with_reducible refine Below.drew ?_) | (with_reducible refine below_drewN ?_ _) | (with_reducible exact Nat.le_refl _) | omega | (simp; done) | (simp; omega)))
    · obtain rfl : at' = n := by omega
      have he : l.drop at' = [] := List.drop_of_length_le (by have := HL.out.1; omega)
      rw [he, Fr.split_nil] at k6
      have HS : Hid (Fr.split l = (fs, 0)) := by unfold Hid; rw [← k6]; unfold Fr.more; simp
      clear he k6
      go_wp2
      go_ret2
      rw [HS.out]
      exact ⟨A3, m, c3, rfl, ⟨xs, Rd.of_own k1, k4.weaken (fun k _ h => h.elim)⟩, k5⟩
end Go.Proofs.Ytcoilgfjabnoeaa
