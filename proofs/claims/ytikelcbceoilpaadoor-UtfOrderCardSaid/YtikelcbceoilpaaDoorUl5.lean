/- tabulariumlaw02.UtfOrder. -/
import Derived.Test.YtikelcbceoilpaaDoorUl1
import Derived.Deep.DeepCutAuto
namespace Go.Proofs.YtikelcbceoilpaaDoor
open Go.RowKit

theorem order_hit {a b : List UInt8} (ha : Utf.valid a = true) (hb : Utf.valid b = true) : ∀ k, (h1 : k < (Utf.all a).length) → (h2 : k < (Utf.all b).length) →
    (∀ j, j < k → (p1 : j < (Utf.all a).length) → (p2 : j < (Utf.all b).length) → (Utf.all a)[j].2 = (Utf.all b)[j].2) → (Utf.all a)[k].2 ≠ (Utf.all b)[k].2 →
    Op.bytesLess a b = decide ((Utf.all a)[k].2 < (Utf.all b)[k].2) ∧ a ≠ b :=
  fun k h1 h2 hj hne => Utf.order_first ha hb k h1 h2 (fun j h => hj j h (by omega) (by omega)) hne
set_option maxHeartbeats 1000000 in
set_option maxRecDepth 100000 in
theorem utforder_law (a b : List UInt8) (w : World) (hF : Forms w) : Calls Tryd.prog 4 #[.string (str a), .string (str b)] w fun e w' => e = .returned (.bool true) ∧ Below w.heap.size w w' := by
  go_enter Tryd.func4, Tryd.ntmps4
  go_wp2_with fail
  refine (wakes_any w hF).mono ?_
  rintro e w1 ⟨rfl, hB1⟩
  by_cases hla : a.length ≤ 500
  · by_cases hlb : b.length ≤ 500
    · have c1 := fun W => refvalid_any a W (by omega)
      have c2 := fun W => refvalid_any b W (by omega)
      cases hva : Utf.valid a
      · rw [hva] at c1
        go_wp2_with fail
        refine (c1 w1).mono ?_
        rintro e w2 ⟨rfl, hB2⟩
        have hB2' := hB1.trans (hB2.mono hB1.size)
        go_wp2
        go_ret
        exact ⟨rfl, hB2'⟩
      · rw [hva] at c1
        cases hvb : Utf.valid b
        · rw [hvb] at c2
          go_wp2_with fail
          refine (c1 w1).mono ?_
          rintro e w2 ⟨rfl, hB2⟩
          have hB2' := hB1.trans (hB2.mono hB1.size)
          go_wp2_with fail
          refine (c2 w2).mono ?_
          rintro e w3 ⟨rfl, hB3⟩
          have hB3' := hB2'.trans (hB3.mono hB2'.size)
          go_wp2
          go_ret
          exact ⟨rfl, hB3'⟩
        · rw [hvb] at c2
          have hal : (Utf.all a).length ≤ a.length := Utf.all_length a
          have hbl : (Utf.all b).length ≤ b.length := Utf.all_length b
          have c3 : ∀ W, Forms W → Calls Tryd.prog 11 #[.string (str a), .int .i64 9999] W (OwnedS W 30 2 (sval ((Utf.all a).take 9999))) := fun W hW => told_any a 9999 W hW (by omega) (by omega)
          have c4 : ∀ W, Forms W → Calls Tryd.prog 11 #[.string (str b), .int .i64 9999] W (OwnedS W 30 2 (sval ((Utf.all b).take 9999))) := fun W hW => told_any b 9999 W hW (by omega) (by omega)
          rw [List.take_of_length_le (show (Utf.all a).length ≤ 9999 by omega)] at c3
          rw [List.take_of_length_le (show (Utf.all b).length ≤ 9999 by omega)] at c4
          have HS := Lib.hid (Utf.order_step hva hvb)
          have HO := Lib.hid (order_hit hva hvb)
          clear hva hvb
          generalize Utf.all a = xs at *
          generalize Utf.all b = ys at *
          go_wp2_with fail
          refine (c1 w1).mono ?_
          rintro e w2 ⟨rfl, hB2⟩
          have hB2' := hB1.trans (hB2.mono hB1.size)
          go_wp2_with fail
          refine (c2 w2).mono ?_
          rintro e w3 ⟨rfl, hB3⟩
          have hB3' := hB2'.trans (hB3.mono hB2'.size)
          go_wp2_with fail
          refine (c3 w3 (hF.below hB3')).mono ?_
          rintro e w4 ⟨A, n, c, rfl, hownA, hB4⟩
          have hB4' := hB3'.trans (hB4.mono hB3'.size)
          have hra := Rd.of_own hownA
          have hna : n = xs.length := Rd2.len hra
          subst hna
          go_wp2_with fail
          refine (c4 w4 (hF.below hB4')).mono ?_
          rintro e w5 ⟨B, m, d, rfl, hownB, hB5⟩
          have hB5' := hB4'.trans (hB5.mono hB4'.size)
          have hrb := Rd.of_own hownB
          have hmb : m = ys.length := Rd2.len hrb
          subst hmb
          have hra5 := hra.below hB5
          clear c1 c2 c3 c4 hra hownA hownB hB1 hB2 hB3 hB4 hB5 hB2' hB3' hB4'
          go_wp2
          go_loopw [7] (fun i wr => ∃ k : Nat, k ≤ xs.length ∧ k ≤ ys.length ∧ i = .int .i64 k ∧ Hid (∀ j, (h : j < k) → (h1 : j < xs.length) → (h2 : j < ys.length) → xs[j].2 = ys[j].2) ∧ ∃ q, wr = w5.drewN q) (fun i _ => xs.length - (intOf i).toNat)
          case atStart => exact ⟨0, by omega, by omega, rfl, (fun j h => by omega), 0, rfl⟩
          case round =>
            obtain ⟨k, hk1, hk2, rfl, HT, q, rfl⟩ := hrel
            by_cases hlt : k < xs.length ∧ k < ys.length
            · obtain ⟨hlx, hly⟩ := hlt
              obtain ⟨ad, rfl⟩ := Rd.addr hra5 (by omega)
              obtain ⟨bd, rfl⟩ := Rd.addr hrb (by omega)
              have hca2 : w5.cell? (ad.add (k * 2 + 1)) = some (.int .i64 (xs[k].2 : Int)) := Rd.cell hra5 (sval_get hlx).2
              have hcb2 : w5.cell? (bd.add (k * 2 + 1)) = some (.int .i64 (ys[k].2 : Int)) := Rd.cell hrb (sval_get hly).2
              have hca3 : w5.cell? ⟨(ad.add (k * 2)).block, (ad.add (k * 2)).off + 1, none⟩ = some (.int .i64 (xs[k].2 : Int)) := by rw [← add_of_add] at hca2; exact hca2
              have hcb3 : w5.cell? ⟨(bd.add (k * 2)).block, (bd.add (k * 2)).off + 1, none⟩ = some (.int .i64 (ys[k].2 : Int)) := by rw [← add_of_add] at hcb2; exact hcb2
              have hca4 : w5.cell? ((ad.add (k * 2)).add 1) = some (.int .i64 (xs[k].2 : Int)) := hca3
              have hcb4 : w5.cell? ((bd.add (k * 2)).add 1) = some (.int .i64 (ys[k].2 : Int)) := hcb3
              obtain ⟨x2, hx2⟩ : ∃ x, x = xs[k].2 := ⟨_, rfl⟩
              obtain ⟨y2, hy2⟩ : ∃ x, x = ys[k].2 := ⟨_, rfl⟩
              rw [← hx2] at hca2 hca3 hca4
              rw [← hy2] at hcb2 hcb3 hcb4
              have HX := Lib.hid (And.intro hx2 hy2)
              clear hx2 hy2
              by_cases he : x2 = y2
              · subst he
                have HT2 : Hid (∀ j, (h : j < k + 1) → (h1 : j < xs.length) → (h2 : j < ys.length) → xs[j].2 = ys[j].2) := fun j h h1 h2 => by
                  rcases Nat.lt_or_ge j k with g | g
                  · exact HT.out j g h1 h2
                  · obtain rfl : j = k := by omega
                    rw [← HX.out.1, ← HX.out.2]
                go_wp2
                go_quiet (fail)
                go_wp2
                go_roundw
                case rel => exact ⟨k + 1, by omega, by omega, by go_num, HT2, _, rfl⟩
                case measure => simp [intOf]; omega
              · have hneb : ((x2 : Int) != (y2 : Int)) = true := by rw [bne_iff_ne]; omega
                have ho := HO.out k hlx hly (fun j h p1 p2 => HT.out j h p1 p2) (by rw [← HX.out.1, ← HX.out.2]; exact he)
                rw [← HX.out.1, ← HX.out.2] at ho
                have hls : Op.bytesLess a b = decide ((x2 : Int) < (y2 : Int)) := by rw [ho.1, decide_eq_decide]; omega
                have hab : (a == b) = false := by rw [beq_eq_false_iff_ne]; exact ho.2
                clear ho
                by_cases hxy : x2 < y2
                · rw [decide_eq_true (show (x2 : Int) < (y2 : Int) by omega)] at hls
                  have hd1 : decide ((x2 : Int) < (y2 : Int)) = true := decide_eq_true (by omega)
                  have hd2 : decide (x2 < y2) = true := decide_eq_true hxy
                  clear hxy
                  go_wp2
                  go_quiet (fail)
                  go_wp2
                  go_quiet (fail)
                  go_wp2
                  go_ret
                  exact ⟨rfl, hB5'.trans ((below_drewN (below_drewN (below_drewN_self _ _ _) _) _).mono hB5'.size)⟩
                · rw [decide_eq_false (show ¬ (x2 : Int) < (y2 : Int) by omega)] at hls
                  have hd1 : decide ((x2 : Int) < (y2 : Int)) = false := decide_eq_false (by omega)
                  have hd2 : decide (x2 < y2) = false := decide_eq_false hxy
                  clear hxy
                  go_wp2
                  go_quiet (fail)
                  go_wp2
                  go_quiet (fail)
                  go_wp2
                  go_ret
                  exact ⟨rfl, hB5'.trans ((below_drewN (below_drewN (below_drewN_self _ _ _) _) _).mono hB5'.size)⟩
            · have hst := HS.out (fun i h1 h2 => HT.out i (by omega) h1 h2)
              rcases Nat.lt_trichotomy xs.length ys.length with hcmp | hcmp | hcmp
              · have hls : Op.bytesLess a b = true := by rw [hst.1]; exact decide_eq_true (by omega)
                have hab : (a == b) = false := by
                  have h2 := hst.2
                  rw [decide_eq_false (p := xs.length = ys.length) (by omega)] at h2
                  rw [beq_eq_false_iff_ne]
                  exact of_decide_eq_false h2
                have hle : ((xs.length : Int) == (ys.length : Int)) = false := by rw [beq_eq_false_iff_ne]; omega
                clear hst HS HO
                go_wp2
                go_ret
                exact ⟨rfl, hB5'.trans ((below_drewN_self _ _ _).mono hB5'.size)⟩
              · have hls : Op.bytesLess a b = false := by rw [hst.1]; exact decide_eq_false (by omega)
                have hab : (a == b) = true := by
                  have h2 := hst.2
                  rw [decide_eq_true (p := xs.length = ys.length) (by omega)] at h2
                  rw [beq_iff_eq]
                  exact of_decide_eq_true h2
                have hle : ((xs.length : Int) == (ys.length : Int)) = true := by rw [beq_iff_eq]; omega
                clear hst HS HO
                go_wp2
                go_ret
                exact ⟨rfl, hB5'.trans ((below_drewN_self _ _ _).mono hB5'.size)⟩
              · have hdd : decide (xs.length < ys.length) = false := decide_eq_false (by omega)
                have hls : Op.bytesLess a b = false := by rw [hst.1]; exact decide_eq_false (by omega)
                have hab : (a == b) = false := by
                  have h2 := hst.2
                  rw [decide_eq_false (p := xs.length = ys.length) (by omega)] at h2
                  rw [beq_eq_false_iff_ne]
                  exact of_decide_eq_false h2
                have hle : ((xs.length : Int) == (ys.length : Int)) = false := by rw [beq_eq_false_iff_ne]; omega
                clear hst HS HO
                go_wp2
                go_ret
                exact ⟨rfl, hB5'.trans ((below_drewN_self _ _ _).mono hB5'.size)⟩
    · go_wp2
      go_ret
      exact ⟨rfl, hB1⟩
  · go_wp2
    go_ret
    exact ⟨rfl, hB1⟩
end Go.Proofs.YtikelcbceoilpaaDoor
