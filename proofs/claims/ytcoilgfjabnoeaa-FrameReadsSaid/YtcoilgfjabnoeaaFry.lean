/- frame.Split. -/
import Derived.Test.YtcoilgfjabnoeaaFrx
import Derived.Test.YtcoilgfjabnoeaaEls
namespace Go.Proofs.Ytcoilgfjabnoeaa
open Go.RowKit

theorem Rdr.kept {w w' : World} {R : Nat} {l : List UInt8} {e : Nat} {row : Option Nat} (h : Rdr w R l e) (hg : w.grownBy w' row) (hr : ∀ k, row = some k → R < k) : Rdr w' R l e := by
  obtain ⟨A, n, c, h1, h2, h3⟩ := h
  refine ⟨A, n, c, ?_, ?_, h3⟩
  · rw [hg.block R (Array.getElem?_eq_some_iff.1 h1).1 (fun e => by have := hr R e.symm; omega)]; exact h1
  · exact h2.keepT (T := fun k => R ≤ k) (fun ad e hn => by have := h3 ad e hn; omega) hg.size (fun k hk hT => hg.block k hk (fun e => hT (by have := hr k e.symm; omega)))

set_option maxRecDepth 1000000 in
set_option maxHeartbeats 2000000 in
theorem frsplit_any (l : List UInt8) (A : Option Addr) (n c : Nat) (w : World) (hb : Bs w A n c l) (hn : n ≤ 1000000) :
    Calls Try.prog 21 #[.slice A n c] w fun e w' => ∃ A2 n2 c2, e = .returned (.tuple #[.slice A2 n2 c2, .int .i64 ((Fr.split l).2 : Int)]) ∧ Bss w' A2 n2 c2 (Fr.split l).1 ∧ Below w.heap.size w w' := by
  have hl := hb.len
  have HL := Lib.hid hl
  go_enter Try.func21, Try.ntmps21
  clear hl
  go_wp2_with fail
  refine (frnew_any l A n c w hb hn).mono ?_
  rintro e w1 ⟨R, rfl, hR0, hR1, hr1, hB1⟩
  have HM : Hid (Fr.more [] (Fr.split l) = Fr.split l) := Fr.more_nil _ Fr.put_ok
  go_wp2
  go_loopg [5] (2 * n + 1) (fun g ov wr => ∃ (l' : List UInt8) (fs : List (List UInt8)) (xs : List Value) (A : Option Addr) (m c er : Nat), ov = .slice A m c ∧ wr.ownsRow w.heap.size 22 1 (.slice A m c) m xs ∧ m ≤ n + 1 ∧ l'.length ≤ n ∧
    Hid (Rdr wr R l' er ∧ R < wr.heap.size ∧ (∀ k, (Value.slice A m c).ownBlock = some k → R < k) ∧ Els wr xs fs (fun k => k = R ∨ (Value.slice A m c).ownBlock = some k) ∧ Below w.heap.size w wr ∧ (er = 0 → Fr.more fs (Fr.split l') = Fr.split l) ∧ (er ≠ 0 → Fr.split l = ([], er)) ∧ g = 2 * l'.length + (if er = 0 then 1 else 0) ∧ (er = 0 → m + l'.length ≤ n)))
  case atStart =>
    refine ⟨l, [], [], none, 0, 0, 0, rfl, own_nil_row _ _, by omega, by have := HL.out; omega, hr1, hR1, by simp [Value.ownBlock], Els.nil _ _, hB1, fun _ => HM.out, fun h => absurd rfl h, by rw [if_pos rfl, HL.out], fun _ => by have := HL.out; omega⟩
  case round =>
    obtain ⟨l', fs, xs, A3, m, c3, er, rfl, hown, hm, hl', HK⟩ := hrel
    obtain ⟨k1, k2, k3, k4, k5, k6, k7, k8, k9⟩ := HK.out
    go_wp2_with fail
    refine (frleft_any R l' er wr k1).mono ?_
    rintro e wr ⟨rfl, rfl⟩
    have hlen2 : l'.length ≤ 1000000 := by omega
    by_cases h0 : l' = []
    · have hd : decide ((0 : Int) < (l'.length : Int)) = false := by subst h0; rfl
      go_wp2_with fail
      refine (frerr_any R l' er wr k1).mono ?_
      rintro e wr ⟨rfl, rfl⟩
      by_cases he : er = 0
      · have hde : ((er : Int) != 0) = false := by subst he; rfl
        have hs := k6 he
        subst h0
        rw [Fr.split_nil] at hs
        have HS : Hid (Fr.split l = (fs, 0)) := by unfold Hid; rw [← hs]; unfold Fr.more; simp
        have hz := Lib.hid he
        clear he hs k6 k7 k8 k9
        go_wp2
        go_ret2
        rw [HS.out]
        exact ⟨A3, m, c3, rfl, ⟨xs, Rd.of_own hown, k4.weaken (fun k _ h => h.elim)⟩, k5⟩
      · have hde : ((er : Int) != 0) = true := by rw [bne_iff_ne]; omega
        have HS := Lib.hid (k7 he)
        clear he k6 k7 k8 k9
        go_wp2
        go_ret2
        rw [HS.out]
        exact ⟨none, 0, 0, rfl, Bss.nil _, k5⟩
    · have hpos : 0 < l'.length := List.length_pos_iff.2 h0
      have hd : decide ((0 : Int) < (l'.length : Int)) = true := by simp; omega
      go_wp2_with fail
      refine (frerr_any R l' er wr k1).mono ?_
      rintro e wr ⟨rfl, rfl⟩
      by_cases he : er = 0
      · have hde : ((er : Int) == 0) = true := by subst he; rfl
        subst he
        have hs := k6 rfl
        have hml := k9 rfl
        go_wp2_with fail
        refine (frframe_yes R 9223372036854775807 9223372036854775807 l' wr k1 hlen2 rfl (by omega) (by omega)).mono ?_
        rintro e w2 ⟨A4, n4, c4, rfl, hown4, hr4, hg4⟩
        have hnext : Hid (((Fr.frame l' 9223372036854775807).2.1 = 0 → Fr.more (fs ++ [(Fr.frame l' 9223372036854775807).2.2]) (Fr.split (Fr.frame l' 9223372036854775807).1) = Fr.split l ∧ (Fr.frame l' 9223372036854775807).1.length < l'.length) ∧
            ((Fr.frame l' 9223372036854775807).2.1 ≠ 0 → Fr.split l = ([], (Fr.frame l' 9223372036854775807).2.1) ∧ (Fr.frame l' 9223372036854775807).1 = l')) := by
          refine ⟨fun hz => ⟨by rw [← Fr.more_step fs h0 hz]; exact hs, Fr.frame_rest hz⟩, fun hz => ⟨?_, (Fr.frame_bad hz).1⟩⟩
          rw [← hs, Fr.split_bad h0 hz]
          unfold Fr.more
          rw [if_pos hz]
        generalize Fr.frame l' 9223372036854775807 = f at *
        have hown2 : w2.ownsRow w.heap.size 22 1 (.slice A3 m c3) m xs := hown.kept hg4 (.inr (fun e => by have := k3 R e; omega))
        have hne4 : ∀ ad, A4 = some ad → 0 < n4 → wr.heap.size ≤ ad.block := fun ad e h => by
          obtain ⟨g, e2, h2⟩ := own_head hown4 h
          rw [e] at e2; cases e2; exact h2
        have hE2 : Els w2 (xs ++ [.slice A4 n4 c4]) (fs ++ [f.2.2]) (fun k => k = R ∨ (Value.slice A3 m c3).ownBlock = some k) := by
          refine Els.snoc (k4.keep hg4.size (fun k hk hT => hg4.block k hk (fun e => hT (.inl (by cases e; rfl))))) (own_bs hown4) (fun ad e h hT => ?_)
          have := hne4 ad e h
          rcases hT with hT | hT
          · omega
          · have := (hown.lt _ hT).2; omega
        have hB2 : Below w.heap.size w w2 := k5.grown hg4 (k5.size) (fun k e => by cases e; omega)
        have HZ : Hid (Rdr w2 R f.1 f.2.1 ∧ R < w2.heap.size ∧ Els w2 (xs ++ [.slice A4 n4 c4]) (fs ++ [f.2.2]) (fun k => k = R ∨ (Value.slice A3 m c3).ownBlock = some k) ∧ (∀ k, (Value.slice A3 m c3).ownBlock = some k → R < k)) := ⟨hr4, Nat.lt_of_lt_of_le k2 hg4.size, hE2, k3⟩
        have hK8 := Lib.hid k8
        have HR0 := Lib.hid hR0
        clear k1 k2 k3 k4 k5 k6 k7 k8 k9 hE2 hr4 hown4 hne4 hg4 hs hown HK hB1 hr1
        have hRd := fun w => Rd.new1 w 22 (.slice A4 n4 c4)
        go_wp2_with (
          (at_builtin
           refine wpList_app_row w rfl _ _ rfl w.heap.size xs [.slice A4 n4 c4] _ _ _ (hown2.alloc _) rfl _ _ _ (hRd _) rfl (by simp [Value.oneCell']) (by omega) (by have := hB2.size; simp; omega) (hB2.alloc hB2.size _) _ rfl _ rfl ?_
           intro A5 c5 w5 hown5 hB5 hg5 hlies))
        obtain ⟨z1, z2, z3, z4⟩ := HZ.out
        have hR5 := (z1.below ((Below.refl _ _).alloc (Nat.le_refl _) (.cells #[.slice A4 n4 c4] 22))).kept hg5 z4
        have hE5 : Els w5 (xs ++ [.slice A4 n4 c4]) (fs ++ [f.2.2]) (fun k => k = R ∨ (Value.slice A5 (m + 1) c5).ownBlock = some k) := by
          have q1 := z3.below ((Below.refl _ _).alloc (Nat.le_refl _) (.cells #[.slice A4 n4 c4] 22))
          have q2 := q1.weaken (T' := fun k => (k = R ∨ (Value.slice A3 m c3).ownBlock = some k) ∨ k = (w2.alloc (.cells #[.slice A4 n4 c4] 22)).heap.size) (fun k hk h => h.elim id (fun e => by omega))
          have q3 := q2.keep hg5.size (fun k hk hT => hg5.block k hk (fun e => hT (.inl (.inr e.symm))))
          refine q3.weaken (fun k _ h => ?_)
          rcases h with h | h
          · exact .inl (.inl h)
          · rcases hlies with e | e
            · exact .inl (.inr (e ▸ h))
            · rw [e] at h; exact .inr (by cases h; rfl)
        have hz5 : R < w5.heap.size := Nat.lt_of_lt_of_le z2 (by have := hg5.size; simp at this; omega)
        have hlt5 : ∀ k, (Value.slice A5 (m + 1) c5).ownBlock = some k → R < k := fun k h => by
          rcases hlies with e | e
          · exact z4 k (e ▸ h)
          · rw [e] at h; cases h; simp; omega
        by_cases hz : f.2.1 = 0
        · obtain ⟨n1, n2⟩ := hnext.out.1 hz
          go_roundg (2 * f.1.length + 1)
          case rel => exact ⟨f.1, fs ++ [f.2.2], xs ++ [.slice A4 n4 c4], A5, m + 1, c5, f.2.1, rfl, hown5, by omega, by omega, hR5, hz5, hlt5, hE5, hB5, fun _ => n1, fun h => absurd hz h, by rw [if_pos hz], fun _ => by omega⟩
          case measure => have := hK8.out; simp at this; omega
        · obtain ⟨n1, n2⟩ := hnext.out.2 hz
          go_roundg (2 * f.1.length)
          case rel => exact ⟨f.1, fs ++ [f.2.2], xs ++ [.slice A4 n4 c4], A5, m + 1, c5, f.2.1, rfl, hown5, by omega, by rw [n2]; omega, hR5, hz5, hlt5, hE5, hB5, fun h => absurd h hz, fun _ => n1, by rw [if_neg hz]; rfl, fun h => absurd h hz⟩
          case measure => have := hK8.out; simp at this; rw [n2]; omega
      · have hde : ((er : Int) == 0) = false := by rw [beq_eq_false_iff_ne]; omega
        have hde2 : ((er : Int) != 0) = true := by rw [bne_iff_ne]; omega
        have HS := Lib.hid (k7 he)
        clear he k6 k7 k8 k9
        go_wp2_with fail
        refine (frerr_any R l' er wr k1).mono ?_
        rintro e wr ⟨rfl, rfl⟩
        go_wp2
        go_ret2
        rw [HS.out]
        exact ⟨none, 0, 0, rfl, Bss.nil _, k5⟩
end Go.Proofs.Ytcoilgfjabnoeaa
