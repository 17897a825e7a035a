/- tabulariumref05: bad, Number, Take, Frame. -/
import Derived.Test.YtcoilgfjabnoeaaFrp
import Derived.Test.YtcoilgfjabnoeaaApp
import Derived.Test.YtcoilgfjabnoeaaVarh
import Derived.Handy
import Derived.Test.YtcoilgfjabnoeaaGrow
namespace Go.Proofs.Ytcoilgfjabnoeaa
open Go.RowKit

theorem bcell {W w1 : World} (hb : Below W.heap.size W w1) : (∀ b o, b < W.heap.size → w1.cell? ⟨b, o, none⟩ = W.cell? ⟨b, o, none⟩) ∧ (∀ b o, b < W.heap.size → w1.frozen? ⟨b, o, none⟩ = W.frozen? ⟨b, o, none⟩) :=
  ⟨fun b o h => hb.cell (p := ⟨b, o, none⟩) h, fun b o h => hb.frozen (p := ⟨b, o, none⟩) h⟩
theorem get_all (l : List UInt8) : (Var.get l).2.2 = 0 ∧ (Var.get l).2.1 ≤ l.length ∧ (Var.get l).1 < 18446744073709551616 ∨ (Var.get l).1 = 0 ∧ (Var.get l).2.1 = 0 ∧ (Var.get l).2.2 ≠ 0 ∧ (Var.get l).2.2 ≤ 4 := by
  rcases Var.getF_cases l 0 0 with h | h | h | h
  · have := Fr.get_size (l := l) h
    exact .inl ⟨h, this.2.1, this.2.2.1⟩
  all_goals (right; unfold Var.get; rw [h]; exact ⟨rfl, rfl, by decide, by decide⟩)
/-- A Got as a value. -/
def gotv (A : Option Addr) (n c : Nat) (at' e N : Int) (A2 : Option Addr) (n2 c2 : Nat) : Value := .agg #[.slice A n c, .int .i64 at', .int .i64 e, .int .u64 N, .slice A2 n2 c2]
set_option maxRecDepth 1000000 in
set_option maxHeartbeats 1000000 in
theorem frbad_any (A : Option Addr) (n c : Nat) (at' e0 e : Int) (w : World) :
    Calls Try.prog 46 #[.agg #[.slice A n c, .int .i64 at', .int .i64 e0], .int .i64 e] w fun e' w' => e' = .returned (gotv A n c at' e 0 none 0 0) ∧ Below w.heap.size w w' := by
  go_enter Try.func46, Try.ntmps46
  go_wp2
  refine bodyPost_ret (v := gotv A n c at' e 0 none 0 0) (by simp [results, Try.results46, go_sem, gotv]) rfl ⟨rfl, ?_⟩
  go_grown

set_option maxRecDepth 1000000 in
set_option maxHeartbeats 1000000 in
theorem frnumber_no (A : Option Addr) (n c : Nat) (at' e : Int) (w : World) (he : (e != 0) = true) :
    Calls Try.prog 30 #[.agg #[.slice A n c, .int .i64 at', .int .i64 e]] w fun e' w' => e' = .returned (gotv A n c at' e 0 none 0 0) ∧ Below w.heap.size w w' := by
  go_enter Try.func30, Try.ntmps30
  go_wp2
  refine bodyPost_ret (v := gotv A n c at' e 0 none 0 0) (by simp [results, Try.results30, go_sem, gotv]) rfl ⟨rfl, ?_⟩
  go_grown

set_option maxRecDepth 1000000 in
set_option maxHeartbeats 1000000 in
theorem frnumber_yes (l : List UInt8) (A : Option Addr) (n c at' : Nat) (w : World) (hb : Bs w A n c l) (hat : at' ≤ n) :
    Calls Try.prog 30 #[.agg #[.slice A n c, .int .i64 at', .int .i64 0]] w fun e' w' => e' = .returned (gotv A n c (at' + (Var.get (l.drop at')).2.1) (Var.get (l.drop at')).2.2 (Var.get (l.drop at')).1 none 0 0) ∧ Below w.heap.size w w' := by
  have hmax := hb.max
  obtain ⟨A2, hrun, hb2, hA2⟩ := cut_bytes_int hb (k := at') (at' : Int) rfl hat
  go_enter Try.func30, Try.ntmps30
  have hln := hb.len
  have hall := get_all (l.drop at')
  have hdl : (l.drop at').length = n - at' := by rw [List.length_drop]; omega
  rw [hdl] at hall
  have HL := Lib.hid (And.intro hln hdl)
  clear hln hdl
  go_wp2_with fail
  refine (refget_any (l.drop at') A2 (n - at') (c - at') _ ((hb2.alloc _).alloc _)).mono ?_
  rintro e w1 ⟨rfl, hB1⟩
  obtain ⟨d1, os1, rfl⟩ := later_of_below hB1
  generalize hgN : (Var.get (l.drop at')).1 = gN at *
  generalize hgS : (Var.get (l.drop at')).2.1 = gS at *
  generalize hgE : (Var.get (l.drop at')).2.2 = gE at *
  have HG := Lib.hid (And.intro hgN (And.intro hgS hgE))
  clear hgN hgS hgE
  clear hB1
  rcases hall with ⟨rfl, g2, g3⟩ | ⟨rfl, rfl, g3, g4⟩
  · have hi : ((at' : Int) + (gS : Int)) ≤ 9223372036854775807 := by omega
    go_wp2
    refine bodyPost_ret (v := gotv A n c (at' + gS) 0 gN none 0 0) (by simp [results, Try.results30, go_sem, gotv]) rfl ⟨by rw [HG.out.1, HG.out.2.1, HG.out.2.2]; rfl, by (repeat' (first | (with_reducible exact Below.refl _ _) | (with_reducible assumption) | (with_reducible refine below_later' ?_ ?_ _ _) | (with_reducible refine Below.alloc ?_ ?_ _) | (with_reducible refine Below.setCell ?_ ?_ _) | (with_reducible refine Below.drew ?_) | (with_reducible refine below_drewN ?_ _) | (with_reducible exact Nat.le_refl _) | omega | (simp; done) | (simp; omega)))⟩
  · have hd : ((gE : Int) != 0) = true := by rw [bne_iff_ne]; omega
    go_wp2_with fail
    refine (frbad_any A n c at' 0 gE _).mono ?_
    rintro e w2 ⟨rfl, hB2⟩
    obtain ⟨d2, os2, rfl⟩ := later_of_below hB2
    clear hB2
    unfold gotv
    go_wp2
    refine bodyPost_ret (v := gotv A n c at' gE 0 none 0 0) (by simp [results, Try.results30, go_sem, gotv]) rfl ⟨by rw [HG.out.1, HG.out.2.1, HG.out.2.2]; rfl, by (repeat' (first | (with_reducible exact Below.refl _ _) | (with_reducible assumption) | (with_reducible refine below_later' ?_ ?_ _ _) | (with_reducible refine Below.alloc ?_ ?_ _) | (with_reducible refine Below.setCell ?_ ?_ _) | (with_reducible refine Below.drew ?_) | (with_reducible refine below_drewN ?_ _) | (with_reducible exact Nat.le_refl _) | omega | (simp; done) | (simp; omega)))⟩
end Go.Proofs.Ytcoilgfjabnoeaa
