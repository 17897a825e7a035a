/- tabulariumref05: Take, Frame. -/
import Derived.Test.YtcoilgfjabnoeaaFrr
namespace Go.Proofs.Ytcoilgfjabnoeaa
open Go.RowKit

set_option maxRecDepth 1000000 in
set_option maxHeartbeats 1000000 in
theorem frtake_err (A : Option Addr) (n c : Nat) (at' e k : Int) (w : World) (he : (e != 0) = true) :
    Calls Try.prog 28 #[.agg #[.slice A n c, .int .i64 at', .int .i64 e], .int .i64 k] w fun e' w' => e' = .returned (gotv A n c at' e 0 none 0 0) ∧ Below w.heap.size w w' := by
  go_enter Try.func28, Try.ntmps28
  go_wp2
  refine bodyPost_ret (v := gotv A n c at' e 0 none 0 0) (by simp [results, Try.results28, go_sem, gotv]) rfl ⟨rfl, ?_⟩
  (repeat' (first | (with_reducible exact Below.refl _ _) | (with_reducible assumption) | (with_reducible refine below_later' ?_ ?_ _ _) | (with_reducible refine Below.alloc ?_ ?_ _) | (with_reducible refine Below.setCell ?_ ?_ _) | (with_reducible refine Below.drew ?_) | (with_reducible refine below_drewN ?_ _) | (with_reducible exact Nat.le_refl _) | omega | (simp; done) | (simp; omega)))
set_option maxRecDepth 1000000 in
set_option maxHeartbeats 1000000 in
theorem frtake_none (A : Option Addr) (n c : Nat) (at' k : Int) (w : World) (hk : k ≤ 0) :
    Calls Try.prog 28 #[.agg #[.slice A n c, .int .i64 at', .int .i64 0], .int .i64 k] w fun e' w' => e' = .returned (gotv A n c at' 0 0 none 0 0) ∧ Below w.heap.size w w' := by
  have hd : decide (k ≤ 0) = true := by simpa using hk
  go_enter Try.func28, Try.ntmps28
  go_wp2
  refine bodyPost_ret (v := gotv A n c at' 0 0 none 0 0) (by simp [results, Try.results28, go_sem, gotv]) rfl ⟨rfl, ?_⟩
  (repeat' (first | (with_reducible exact Below.refl _ _) | (with_reducible assumption) | (with_reducible refine below_later' ?_ ?_ _ _) | (with_reducible refine Below.alloc ?_ ?_ _) | (with_reducible refine Below.setCell ?_ ?_ _) | (with_reducible refine Below.drew ?_) | (with_reducible refine below_drewN ?_ _) | (with_reducible exact Nat.le_refl _) | omega | (simp; done) | (simp; omega)))
set_option maxRecDepth 1000000 in
set_option maxHeartbeats 1000000 in
theorem frtake_short (A : Option Addr) (n c at' : Nat) (k : Int) (w : World) (hn : n ≤ 9223372036854775807) (hat : at' ≤ n) (hk : 0 < k) (hs : (n : Int) - at' < k) :
    Calls Try.prog 28 #[.agg #[.slice A n c, .int .i64 at', .int .i64 0], .int .i64 k] w fun e' w' => e' = .returned (gotv A n c at' 2 0 none 0 0) ∧ Below w.heap.size w w' := by
  have hd : decide (k ≤ 0) = false := by simp; omega
  have hd2 : decide ((n : Int) - at' < k) = true := by simp; omega
  go_enter Try.func28, Try.ntmps28
  go_wp2_with fail
  refine (frbad_any A n c at' 0 2 _).mono ?_
  rintro e w1 ⟨rfl, hB1⟩
  obtain ⟨d1, os1, rfl⟩ := later_of_below hB1
  clear hB1
  unfold gotv
  go_wp2
  refine bodyPost_ret (v := gotv A n c at' 2 0 none 0 0) (by simp [results, Try.results28, go_sem, gotv]) rfl ⟨rfl, ?_⟩
  (repeat' (first | (with_reducible exact Below.refl _ _) | (with_reducible assumption) | (with_reducible refine below_later' ?_ ?_ _ _) | (with_reducible refine Below.alloc ?_ ?_ _) | (with_reducible refine Below.setCell ?_ ?_ _) | (with_reducible refine Below.drew ?_) | (with_reducible refine below_drewN ?_ _) | (with_reducible exact Nat.le_refl _) | omega | (simp; done) | (simp; omega)))
set_option maxRecDepth 1000000 in
set_option maxHeartbeats 1000000 in
theorem frtake_ok (l : List UInt8) (A : Option Addr) (n c at' k : Nat) (w : World) (hb : Bs w A n c l) (hk : 0 < k) (hs : at' + k ≤ n) :
    Calls Try.prog 28 #[.agg #[.slice A n c, .int .i64 at', .int .i64 0], .int .i64 k] w fun e' w' => ∃ A2 c2, e' = .returned (gotv A n c (at' + k) 0 0 A2 k c2) ∧ Bs w A2 k c2 ((l.drop at').take k) ∧ (∀ a2, A2 = some a2 → ∃ ad, A = some ad ∧ a2.block = ad.block) ∧ Below w.heap.size w w' := by
  have hmax := hb.max
  have hd : decide ((k : Int) ≤ 0) = false := by simp; omega
  have hd2 : decide ((n : Int) - at' < k) = false := by simp; omega
  have hi : (at' : Int) + (k : Int) ≤ (n : Int) := by omega
  obtain ⟨A2, hr2, hb2, ha2⟩ := hb.sub (at' : Int) ((at' : Int) + (k : Int)) at' k rfl (by omega) hs
  go_enter Try.func28, Try.ntmps28
  go_wp2
  refine bodyPost_ret (v := gotv A n c (at' + k) 0 0 A2 k (c - at')) (by simp [results, Try.results28, go_sem, gotv]) rfl ⟨A2, c - at', rfl, hb2, ha2, ?_⟩
  (repeat' (first | (with_reducible exact Below.refl _ _) | (with_reducible assumption) | (with_reducible refine below_later' ?_ ?_ _ _) | (with_reducible refine Below.alloc ?_ ?_ _) | (with_reducible refine Below.setCell ?_ ?_ _) | (with_reducible refine Below.drew ?_) | (with_reducible refine below_drewN ?_ _) | (with_reducible exact Nat.le_refl _) | omega | (simp; done) | (simp; omega)))

/-- What the document's Frame tells. -/
def RefFramed (w : World) (A : Option Addr) (n c : Nat) (l : List UInt8) (f : List UInt8 × Nat × List UInt8) (e : Ending) (w' : World) : Prop :=
  ∃ (at' : Nat) (A2 : Option Addr) (n2 c2 : Nat) (N : Int), e = .returned (gotv A n c at' f.2.1 N A2 n2 c2) ∧ at' ≤ n ∧ l.drop at' = f.1 ∧ Bs w A2 n2 c2 f.2.2 ∧ (∀ a2, A2 = some a2 → 0 < n2 → ∃ ad, A = some ad ∧ a2.block = ad.block) ∧ Below w.heap.size w w'
theorem bs_back {w w' : World} {A : Option Addr} {n c : Nat} {l : List UInt8} (h : Bs w' A n c l) (hb : Below w.heap.size w w') (hlt : ∀ ad, A = some ad → 0 < n → ad.block < w.heap.size) : Bs w A n c l :=
  ⟨h.1, h.2.1, h.2.2.1, fun hn => by
    obtain ⟨ad, e, _, hc⟩ := h.2.2.2 hn
    exact ⟨ad, e, hlt ad e hn, fun j u hu => (hb.cell (by rw [block_of_add]; exact hlt ad e hn)).symm.trans (hc j u hu)⟩⟩
theorem Bs.lt' {w : World} {A : Option Addr} {n c : Nat} {l : List UInt8} (h : Bs w A n c l) : ∀ ad, A = some ad → 0 < n → ad.block < w.heap.size := fun ad e hm => by
  obtain ⟨ad', e', h1, _⟩ := h.2.2.2 hm
  rw [e] at e'; cases e'; exact h1
theorem bs_nil (w : World) : Bs w none 0 0 [] := Rd.nil w 1

set_option maxRecDepth 1000000 in
set_option maxHeartbeats 2000000 in
theorem frrefframe_yes (l : List UInt8) (A : Option Addr) (n c at' M : Nat) (mi : Int) (w : World) (hb : Bs w A n c l) (hat : at' ≤ n) (hn : n ≤ 1000000) (hmi : M = mi.toNat) (hmx : mi ≤ 9223372036854775807) :
    Calls Try.prog 33 #[.agg #[.slice A n c, .int .i64 at', .int .i64 0], .int .i64 mi] w (RefFramed w A n c l (Fr.frame (l.drop at') M)) := by
  have hln := hb.len
  have hall := get_all (l.drop at')
  have hdl : (l.drop at').length = n - at' := by rw [List.length_drop]; omega
  rw [hdl] at hall
  have HL := Lib.hid (And.intro hln hdl)
  clear hln hdl
  have hM : (M : Int) ≤ 9223372036854775807 := by omega
  obtain ⟨f, hf⟩ : ∃ f, f = Fr.frame (l.drop at') M := ⟨_, rfl⟩
  rw [← hf]
  unfold Fr.frame at hf
  rw [HL.out.2] at hf
  go_enter Try.func33, Try.ntmps33
  have hf2 := Lib.hid hf
  clear hf
  go_wp2_with fail
  refine (frnumber_yes l A n c at' _ ((hb.alloc _).alloc _) hat).mono ?_
  rintro e w1 ⟨rfl, hB1⟩
  obtain ⟨d1, os1, rfl⟩ := later_of_below hB1
  clear hB1
  generalize (Var.get (l.drop at')).1 = gN at *
  generalize (Var.get (l.drop at')).2.1 = gS at *
  generalize (Var.get (l.drop at')).2.2 = gE at *
  unfold gotv
  rcases hall with ⟨rfl, g2, g3⟩ | ⟨rfl, rfl, g3, g4⟩
  · have HF : Hid (f = if M < gN then (l.drop at', 4, []) else if n - at' - gS < gN then (l.drop at', 2, []) else (((l.drop at').drop gS).drop gN, 0, ((l.drop at').drop gS).take gN)) := by
      unfold Hid; rw [hf2.out]; simp
    clear hf2
    by_cases hneg : mi < 0
    · obtain rfl : M = 0 := by omega
      have hdn : decide (mi < 0) = true := by simpa using hneg
      clear hmi
      by_cases hbig : 0 < gN
      · have hd2 : decide ((0 : Int) < (gN : Int)) = true := by simp; omega
        rw [if_pos hbig] at HF
        go_wp2_with fail
        refine (frbad_any A n c at' 0 4 _).mono ?_
        rintro e w2 ⟨rfl, hB2⟩
        obtain ⟨d2, os2, rfl⟩ := later_of_below hB2
        clear hB2
        unfold gotv
        go_wp2
        refine bodyPost_ret (v := gotv A n c at' 4 0 none 0 0) (by simp [results, Try.results33, go_sem, gotv]) rfl ?_
        rw [HF.out]
        refine ⟨at', none, 0, 0, 0, rfl, hat, rfl, bs_nil w, fun _ _ h => (by cases h), ?_⟩
        (repeat' (first | (with_reducible exact Below.refl _ _) | (with_reducible assumption) | (with_reducible refine below_later' ?_ ?_ _ _) | (with_reducible refine Below.alloc ?_ ?_ _) | (with_reducible refine Below.setCell ?_ ?_ _) | (with_reducible refine Below.drew ?_) | (with_reducible refine below_drewN ?_ _) | (with_reducible exact Nat.le_refl _) | omega | (simp; done) | (simp; omega)))
      · have hd2 : decide ((0 : Int) < (gN : Int)) = false := by simp; omega
        rw [if_neg hbig] at HF
        have hsub : (n : Int) - ((at' : Int) + (gS : Int)) = ((n - at' - gS : Nat) : Int) := by omega
        have hsum : (at' : Int) + (gS : Int) ≤ 2000000 := by omega
        by_cases hsh : n - at' - gS < gN
        · exact absurd hsh (by omega)
        · have hd3 : decide (((n - at' - gS : Nat) : Int) < (gN : Int)) = false := by simp; omega
          rw [if_neg hsh] at HF
          have hgi : (gN : Int) ≤ 9223372036854775807 := by omega
          go_wp2_with fail
          by_cases hz : gN = 0
          · subst hz
            refine (frtake_none A n c (at' + gS) 0 _ (by omega)).mono ?_
            rintro e w2 ⟨rfl, hB2⟩
            obtain ⟨d2, os2, rfl⟩ := later_of_below hB2
            clear hB2
            unfold gotv
            go_wp2
            refine bodyPost_ret (v := gotv A n c (at' + gS) 0 0 none 0 0) (by simp [results, Try.results33, go_sem, gotv]) rfl ?_
            rw [HF.out]
            refine ⟨at' + gS, none, 0, 0, 0, by simp, by omega, by simp, by simpa using bs_nil w, fun _ _ h => (by cases h), ?_⟩
            (repeat' (first | (with_reducible exact Below.refl _ _) | (with_reducible assumption) | (with_reducible refine below_later' ?_ ?_ _ _) | (with_reducible refine Below.alloc ?_ ?_ _) | (with_reducible refine Below.setCell ?_ ?_ _) | (with_reducible refine Below.drew ?_) | (with_reducible refine below_drewN ?_ _) | (with_reducible exact Nat.le_refl _) | omega | (simp; done) | (simp; omega)))
          · exact absurd hz (by omega)
    · obtain rfl : mi = (M : Int) := by omega
      have hdn : decide ((M : Int) < 0) = false := by simp
      clear hmi
      by_cases hbig : M < gN
      · have hd2 : decide ((M : Int) < (gN : Int)) = true := by simp; omega
        rw [if_pos hbig] at HF
        go_wp2_with fail
        refine (frbad_any A n c at' 0 4 _).mono ?_
        rintro e w2 ⟨rfl, hB2⟩
        obtain ⟨d2, os2, rfl⟩ := later_of_below hB2
        clear hB2
        unfold gotv
        go_wp2
        refine bodyPost_ret (v := gotv A n c at' 4 0 none 0 0) (by simp [results, Try.results33, go_sem, gotv]) rfl ?_
        rw [HF.out]
        refine ⟨at', none, 0, 0, 0, rfl, hat, rfl, bs_nil w, fun _ _ h => (by cases h), ?_⟩
        (repeat' (first | (with_reducible exact Below.refl _ _) | (with_reducible assumption) | (with_reducible refine below_later' ?_ ?_ _ _) | (with_reducible refine Below.alloc ?_ ?_ _) | (with_reducible refine Below.setCell ?_ ?_ _) | (with_reducible refine Below.drew ?_) | (with_reducible refine below_drewN ?_ _) | (with_reducible exact Nat.le_refl _) | omega | (simp; done) | (simp; omega)))
      · have hd2 : decide ((M : Int) < (gN : Int)) = false := by simp; omega
        rw [if_neg hbig] at HF
        have hsub : (n : Int) - ((at' : Int) + (gS : Int)) = ((n - at' - gS : Nat) : Int) := by omega
        have hsum : (at' : Int) + (gS : Int) ≤ 2000000 := by omega
        by_cases hsh : n - at' - gS < gN
        · have hd3 : decide (((n - at' - gS : Nat) : Int) < (gN : Int)) = true := by simp; omega
          rw [if_pos hsh] at HF
          go_wp2_with fail
          refine (frbad_any A n c at' 0 2 _).mono ?_
          rintro e w2 ⟨rfl, hB2⟩
          obtain ⟨d2, os2, rfl⟩ := later_of_below hB2
          clear hB2
          unfold gotv
          go_wp2
          refine bodyPost_ret (v := gotv A n c at' 2 0 none 0 0) (by simp [results, Try.results33, go_sem, gotv]) rfl ?_
          rw [HF.out]
          refine ⟨at', none, 0, 0, 0, rfl, hat, rfl, bs_nil w, fun _ _ h => (by cases h), ?_⟩
          (repeat' (first | (with_reducible exact Below.refl _ _) | (with_reducible assumption) | (with_reducible refine below_later' ?_ ?_ _ _) | (with_reducible refine Below.alloc ?_ ?_ _) | (with_reducible refine Below.setCell ?_ ?_ _) | (with_reducible refine Below.drew ?_) | (with_reducible refine below_drewN ?_ _) | (with_reducible exact Nat.le_refl _) | omega | (simp; done) | (simp; omega)))
        · have hd3 : decide (((n - at' - gS : Nat) : Int) < (gN : Int)) = false := by simp; omega
          rw [if_neg hsh] at HF
          have hgi : (gN : Int) ≤ 9223372036854775807 := by omega
          go_wp2_with fail
          by_cases hz : gN = 0
          · subst hz
            refine (frtake_none A n c (at' + gS) 0 _ (by omega)).mono ?_
            rintro e w2 ⟨rfl, hB2⟩
            obtain ⟨d2, os2, rfl⟩ := later_of_below hB2
            clear hB2
            unfold gotv
            go_wp2
            refine bodyPost_ret (v := gotv A n c (at' + gS) 0 0 none 0 0) (by simp [results, Try.results33, go_sem, gotv]) rfl ?_
            rw [HF.out]
            refine ⟨at' + gS, none, 0, 0, 0, by simp, by omega, by simp, by simpa using bs_nil w, fun _ _ h => (by cases h), ?_⟩
            (repeat' (first | (with_reducible exact Below.refl _ _) | (with_reducible assumption) | (with_reducible refine below_later' ?_ ?_ _ _) | (with_reducible refine Below.alloc ?_ ?_ _) | (with_reducible refine Below.setCell ?_ ?_ _) | (with_reducible refine Below.drew ?_) | (with_reducible refine below_drewN ?_ _) | (with_reducible exact Nat.le_refl _) | omega | (simp; done) | (simp; omega)))
          · refine (frtake_ok l A n c (at' + gS) gN _ (((hb.alloc _).alloc _).below (below_later _ _ _) |>.alloc _) (by omega) (by omega)).mono ?_
            rintro e w2 ⟨A3, c3, rfl, hb3, ha3, hB2⟩
            obtain ⟨d2, os2, rfl⟩ := later_of_below hB2
            clear hB2
            unfold gotv
            go_wp2
            refine bodyPost_ret (v := gotv A n c (at' + gS + gN) 0 0 A3 gN c3) (by simp [results, Try.results33, go_sem, gotv]) rfl ?_
            rw [HF.out]
            refine ⟨at' + gS + gN, A3, gN, c3, 0, by simp, by omega, by simp [List.drop_drop], ?_, fun a2 e _ => ha3 a2 e, ?_⟩
            · rw [show l.drop (at' + gS) = (l.drop at').drop gS by rw [List.drop_drop]] at hb3
              exact bs_back hb3 (by (repeat' (first | (with_reducible exact Below.refl _ _) | (with_reducible assumption) | (with_reducible refine below_later' ?_ ?_ _ _) | (with_reducible refine Below.alloc ?_ ?_ _) | (with_reducible refine Below.setCell ?_ ?_ _) | (with_reducible refine Below.drew ?_) | (with_reducible refine below_drewN ?_ _) | (with_reducible exact Nat.le_refl _) | omega | (simp; done) | (simp; omega)))) (fun ad e hn => by obtain ⟨a0, e1, e2⟩ := ha3 ad e; have := hb.lt' a0 e1 (by omega); omega)
            · (repeat' (first | (with_reducible exact Below.refl _ _) | (with_reducible assumption) | (with_reducible refine below_later' ?_ ?_ _ _) | (with_reducible refine Below.alloc ?_ ?_ _) | (with_reducible refine Below.setCell ?_ ?_ _) | (with_reducible refine Below.drew ?_) | (with_reducible refine below_drewN ?_ _) | (with_reducible exact Nat.le_refl _) | omega | (simp; done) | (simp; omega)))
  · have hd : ((gE : Int) != 0) = true := by rw [bne_iff_ne]; omega
    have HF : Hid (f = (l.drop at', gE, [])) := by unfold Hid; rw [hf2.out, if_pos g3]
    clear hf2
    go_wp2
    refine bodyPost_ret (v := gotv A n c at' gE 0 none 0 0) (by simp [results, Try.results33, go_sem, gotv]) rfl ?_
    rw [HF.out]
    refine ⟨at', none, 0, 0, 0, rfl, hat, rfl, bs_nil w, fun _ _ h => (by cases h), ?_⟩
    (repeat' (first | (with_reducible exact Below.refl _ _) | (with_reducible assumption) | (with_reducible refine below_later' ?_ ?_ _ _) | (with_reducible refine Below.alloc ?_ ?_ _) | (with_reducible refine Below.setCell ?_ ?_ _) | (with_reducible refine Below.drew ?_) | (with_reducible refine below_drewN ?_ _) | (with_reducible exact Nat.le_refl _) | omega | (simp; done) | (simp; omega)))
end Go.Proofs.Ytcoilgfjabnoeaa
