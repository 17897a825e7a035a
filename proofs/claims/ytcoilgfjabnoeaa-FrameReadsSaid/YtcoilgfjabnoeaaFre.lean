/- tabulariumref05: Take, Number, Frame at any state. -/
import Derived.Test.YtcoilgfjabnoeaaFrs
import Derived.Test.YtcoilgfjabnoeaaFrd
namespace Go.Proofs.Ytcoilgfjabnoeaa
open Go.RowKit

theorem frreftake_any (l : List UInt8) (A : Option Addr) (n c at' e : Nat) (k : Int) (w : World) (hb : Bs w A n c l) (hat : at' ≤ n) :
    Calls Try.prog 28 #[.agg #[.slice A n c, .int .i64 at', .int .i64 e], .int .i64 k] w (RefFramed w A n c l (Fr.takeS (l.drop at') e k)) := by
  have hln := hb.len
  have hmax := hb.max
  have hdl : (l.drop at').length = n - at' := by rw [List.length_drop]; omega
  unfold Fr.takeS
  by_cases he : e = 0
  · subst he
    by_cases hk : k ≤ 0
    · rw [if_pos (.inr hk)]
      refine (frtake_none A n c at' k w hk).mono ?_
      rintro r w' ⟨rfl, hB⟩
      exact ⟨at', none, 0, 0, 0, rfl, hat, rfl, bs_nil w, by simp, hB⟩
    · rw [if_neg (by omega)]
      by_cases hs : ((l.drop at').length : Int) < k
      · rw [if_pos hs]
        refine (frtake_short A n c at' k w hmax hat (by omega) (by omega)).mono ?_
        rintro r w' ⟨rfl, hB⟩
        exact ⟨at', none, 0, 0, 0, rfl, hat, rfl, bs_nil w, by simp, hB⟩
      · rw [if_neg hs]
        obtain ⟨m, rfl⟩ : ∃ m : Nat, k = m := ⟨k.toNat, by omega⟩
        rw [Int.toNat_natCast]
        refine (frtake_ok l A n c at' m w hb (by omega) (by omega)).mono ?_
        rintro r w' ⟨A2, c2, rfl, hb2, hA2, hB⟩
        exact ⟨at' + m, A2, m, c2, 0, by rw [show ((at' + m : Nat) : Int) = (at' : Int) + m by omega]; rfl, by omega, by rw [List.drop_drop], hb2, fun a2 e _ => hA2 a2 e, hB⟩
  · rw [if_pos (.inl he)]
    refine (frtake_err A n c at' e k w (by rw [bne_iff_ne]; omega)).mono ?_
    rintro r w' ⟨rfl, hB⟩
    exact ⟨at', none, 0, 0, 0, rfl, hat, rfl, bs_nil w, by simp, hB⟩

theorem frrefnumber_any (l : List UInt8) (A : Option Addr) (n c at' e : Nat) (w : World) (hb : Bs w A n c l) (hat : at' ≤ n) :
    Calls Try.prog 30 #[.agg #[.slice A n c, .int .i64 at', .int .i64 e]] w fun r w' => ∃ at2 : Nat, r = .returned (gotv A n c at2 (Fr.numS (l.drop at') e).2.1 (Fr.numS (l.drop at') e).2.2 none 0 0) ∧ at2 ≤ n ∧ l.drop at2 = (Fr.numS (l.drop at') e).1 ∧ Below w.heap.size w w' := by
  have hln := hb.len
  have hdl : (l.drop at').length = n - at' := by rw [List.length_drop]; omega
  unfold Fr.numS
  by_cases he : e = 0
  · subst he
    rw [if_neg (by simp)]
    refine (frnumber_yes l A n c at' w hb hat).mono ?_
    rintro r w' ⟨rfl, hB⟩
    have hsz : (Var.get (l.drop at')).2.1 ≤ (l.drop at').length := by
      rcases get_all (l.drop at') with h | h <;> omega
    exact ⟨at' + (Var.get (l.drop at')).2.1, by rw [show ((at' + (Var.get (l.drop at')).2.1 : Nat) : Int) = (at' : Int) + ((Var.get (l.drop at')).2.1 : Int) by omega], by omega, by rw [List.drop_drop], hB⟩
  · rw [if_pos he]
    refine (frnumber_no A n c at' e w (by rw [bne_iff_ne]; omega)).mono ?_
    rintro r w' ⟨rfl, hB⟩
    exact ⟨at', rfl, hat, rfl, hB⟩

set_option maxRecDepth 1000000 in
set_option maxHeartbeats 1000000 in
theorem frrefframes_any (l : List UInt8) (A : Option Addr) (n c at' e M : Nat) (mi : Int) (w : World) (hb : Bs w A n c l) (hat : at' ≤ n) (hn : n ≤ 1000000) (hmi : M = mi.toNat) (hmx : mi ≤ 9223372036854775807) :
    Calls Try.prog 33 #[.agg #[.slice A n c, .int .i64 at', .int .i64 e], .int .i64 mi] w (RefFramed w A n c l (Fr.frameS (l.drop at') e M)) := by
  by_cases he : e = 0
  · subst he
    have hF : Fr.frameS (l.drop at') 0 M = Fr.frame (l.drop at') M := by unfold Fr.frameS; rw [if_neg (by simp)]
    rw [hF]
    exact frrefframe_yes l A n c at' M mi w hb hat hn hmi hmx
  · have hF : Hid (Fr.frameS (l.drop at') e M = (l.drop at', e, [])) := by unfold Hid Fr.frameS; rw [if_pos he]
    have hd : ((e : Int) != 0) = true := by rw [bne_iff_ne]; omega
    have hbn := bs_nil w
    clear hmi
    go_enter Try.func33, Try.ntmps33
    go_wp2_with fail
    refine (frnumber_no A n c at' e _ hd).mono ?_
    rintro r w1 ⟨rfl, hB1⟩
    obtain ⟨d1, os1, rfl⟩ := later_of_below hB1
    clear hB1 he
    unfold gotv
    go_wp2
    refine bodyPost_ret (v := gotv A n c at' e 0 none 0 0) (by simp [results, Try.results33, go_sem, gotv]) rfl ?_
    rw [hF.out]
    refine ⟨at', none, 0, 0, 0, rfl, hat, rfl, hbn, by simp, ?_⟩
    (repeat' (first | (with_reducible exact Below.refl _ _) | (with_reducible assumption) | (with_reducible refine below_later' ?_ ?_ _ _) | (with_reducible refine Below.alloc ?_ ?_ _) | (with_reducible refine Below.setCell ?_ ?_ _) | (with_reducible refine Below.drew ?_) | (with_reducible refine below_drewN ?_ _) | (with_reducible exact Nat.le_refl _) | omega | (simp; done) | (simp; omega)))
end Go.Proofs.Ytcoilgfjabnoeaa
