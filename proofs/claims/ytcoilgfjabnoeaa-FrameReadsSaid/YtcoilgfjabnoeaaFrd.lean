/- frame.Reader at any state: Take, Byte, Number, Frame, Text, End. -/
import Derived.Test.YtcoilgfjabnoeaaFrx
import Derived.Test.YtcoilgfjabnoeaaStr
namespace Go.Proofs.Ytcoilgfjabnoeaa
open Go.RowKit

/-- What is left, the error, what was told: of so many bytes. -/
def Fr.takeS (l : List UInt8) (e : Nat) (k : Int) : List UInt8 × Nat × List UInt8 :=
  if e ≠ 0 ∨ k ≤ 0 then (l, e, []) else if (l.length : Int) < k then (l, 2, []) else (l.drop k.toNat, 0, l.take k.toNat)
/-- .. of the next number. -/
def Fr.numS (l : List UInt8) (e : Nat) : List UInt8 × Nat × Nat :=
  if e ≠ 0 then (l, e, 0) else (l.drop (Var.get l).2.1, (Var.get l).2.2, (Var.get l).1)
/-- .. of the next frame. -/
def Fr.frameS (l : List UInt8) (e : Nat) (m : Nat) : List UInt8 × Nat × List UInt8 := if e ≠ 0 then (l, e, []) else Fr.frame l m

set_option maxRecDepth 1000000 in
set_option maxHeartbeats 1000000 in
theorem frtakes_any (R : Nat) (l : List UInt8) (e : Nat) (k : Int) (w : World) (h : Rdr w R l e) (hl : l.length ≤ 1000000) (hk : -9223372036854775808 ≤ k ∧ k ≤ 9223372036854775807) :
    Calls Try.prog 32 #[.pointer (some ⟨R, 0, none⟩), .int .i64 k] w (Framed w R (Fr.takeS l e k)) := by
  have h' := h
  obtain ⟨A, n, c, h1, h2, h3⟩ := h'
  have hc1 : w.cell? ⟨R, 1, none⟩ = some (.int .i64 (e : Int)) := by rw [cell_of_row _ _ _ _ _ _ h1]; rfl
  clear h1 h2 h3
  by_cases he : e = 0
  · subst he
    obtain ⟨M, hM⟩ : ∃ M : Nat, M = k.toNat := ⟨_, rfl⟩
    have hmax : max k 0 = (M : Int) := by omega
    by_cases hs : l.length < M
    · have hF : Hid (Fr.takeS l 0 k = (l, 2, [])) := by unfold Hid Fr.takeS; rw [if_neg (by omega), if_pos (by omega)]
      have hcut := frcut_short R l 0 0 M w h (by omega) (by omega)
      rw [show ((0 : Nat) : Int) = 0 from rfl] at hcut
      clear hM
      go_enter Try.func32, Try.ntmps32
      go_wp2_with fail
      refine hcut.mono ?_
      rintro e w2 ⟨rfl, hr2, hg2⟩
      go_wp2_with fail
      refine (clone_any [] none 0 0 w2 (Rd.nil _ _) (by omega)).mono ?_
      rintro e w3 ⟨A3, n3, c3, rfl, hown3, hB3⟩
      go_wp2
      go_ret
      rw [hF.out]
      exact ⟨A3, n3, c3, rfl, own_mono hown3 hg2.size, hr2.below hB3, hg2.trans (grown_of_below hB3 _)⟩
    · have hF : Hid (Fr.takeS l 0 k = (l.drop M, 0, l.take M)) := by
        unfold Hid Fr.takeS
        by_cases hk0 : k ≤ 0
        · rw [if_pos (by omega), show M = 0 by omega]; rfl
        · rw [if_neg (by omega), if_neg (by omega), hM]
      have hcut := frcut_ok R l 0 0 M w h (by omega)
      rw [show ((0 : Nat) : Int) = 0 from rfl] at hcut
      clear hM
      go_enter Try.func32, Try.ntmps32
      go_wp2_with fail
      refine hcut.mono ?_
      rintro e w2 ⟨A2, c2, rfl, hb2, hr2, hg2⟩
      go_wp2_with fail
      refine (clone_any _ A2 _ c2 w2 hb2 (by omega)).mono ?_
      rintro e w3 ⟨A3, n3, c3, rfl, hown3, hB3⟩
      go_wp2
      go_ret
      rw [hF.out]
      exact ⟨A3, n3, c3, rfl, own_mono hown3 hg2.size, hr2.below hB3, hg2.trans (grown_of_below hB3 _)⟩
  · have hd : ((e : Int) != 0) = true := by rw [bne_iff_ne]; omega
    have hF : Hid (Fr.takeS l e k = (l, e, [])) := by unfold Hid Fr.takeS; rw [if_pos (.inl he)]
    clear he
    go_enter Try.func32, Try.ntmps32
    go_wp2
    go_ret
    rw [hF.out]
    exact ⟨none, 0, 0, rfl, own_nil _ _, h, World.grownBy.refl _ _⟩

set_option maxRecDepth 1000000 in
set_option maxHeartbeats 1000000 in
theorem frbyte_any (R : Nat) (l : List UInt8) (e : Nat) (w : World) (h : Rdr w R l e) (hl : l.length ≤ 1000000) :
    Calls Try.prog 29 #[.pointer (some ⟨R, 0, none⟩)] w fun r w' => r = .returned (.int .u8 (((Fr.takeS l e 1).2.2.headD 0).toNat : Int)) ∧ Rdr w' R (Fr.takeS l e 1).1 (Fr.takeS l e 1).2.1 ∧ w.grownBy w' (some R) := by
  have hcon := frtakes_any R l e 1 w h hl (by omega)
  have hone : (Fr.takeS l e 1).2.2.length ≤ 1 := by
    unfold Fr.takeS; split
    · simp
    · split
      · simp
      · simp; omega
  generalize Fr.takeS l e 1 = f at *
  obtain ⟨f1, f2, t⟩ := f
  simp only at hone
  go_enter Try.func29, Try.ntmps29
  go_wp2_with fail
  refine hcon.mono ?_
  rintro e w2 ⟨A2, n2, c2, rfl, hown, hr, hg⟩
  have hbs : Bs w2 A2 n2 c2 t := Bs.of_own hown
  have hln := hbs.len
  by_cases h0 : n2 = 0
  · obtain rfl : t = [] := List.eq_nil_of_length_eq_zero (by omega)
    subst h0
    clear hown hln hbs
    go_wp2
    go_ret
    exact ⟨rfl, hr, hg⟩
  · obtain ⟨b, rfl⟩ : ∃ b, t = [b] := by
      match t, hln, hone with
      | [], h1, _ => exact absurd h1 h0
      | [b], _, _ => exact ⟨b, rfl⟩
      | _ :: _ :: _, _, h2 => simp at h2
    obtain rfl : n2 = 1 := hln
    obtain ⟨ad, rfl⟩ := hbs.addr (by omega)
    have hc : w2.cell? (ad.add 0) = some (.int .u8 (b.toNat : Int)) := hbs.cell (k := 0) (by simp)
    have hc2 : w2.cell? ad = some (.int .u8 (b.toNat : Int)) := by rw [← hc]; congr 1
    clear hown hone
    go_wp2
    go_ret
    exact ⟨rfl, hr, hg⟩

set_option maxRecDepth 1000000 in
set_option maxHeartbeats 1000000 in
theorem frend_any (R : Nat) (l : List UInt8) (e : Nat) (w : World) (h : Rdr w R l e) :
    Calls Try.prog 36 #[.pointer (some ⟨R, 0, none⟩)] w fun r w' => r = .returned (.int .i64 ((if e = 0 ∧ 0 < l.length then 14 else e : Nat) : Int)) ∧ w = w' := by
  have h' := h
  obtain ⟨A, n, c, h1, h2, h3⟩ := h'
  have hc1 : w.cell? ⟨R, 1, none⟩ = some (.int .i64 (e : Int)) := by rw [cell_of_row _ _ _ _ _ _ h1]; rfl
  have hleft := frleft_any R l e w h
  clear h1 h2 h3
  go_enter Try.func36, Try.ntmps36
  by_cases he : e = 0
  · subst he
    by_cases hl : 0 < l.length
    · rw [if_pos ⟨rfl, hl⟩]
      have hd : decide (0 < l.length) = true := by simpa using hl
      have hd2 : decide ((0 : Int) < (l.length : Int)) = true := by simp; omega
      go_wp2_with fail
      refine hleft.mono ?_
      rintro e w2 ⟨rfl, rfl⟩
      go_wp2
      go_ret
      exact ⟨rfl, rfl⟩
    · rw [if_neg (fun hh => hl hh.2)]
      have hd : decide (0 < l.length) = false := by simpa using hl
      have hd2 : decide ((0 : Int) < (l.length : Int)) = false := decide_eq_false (by omega)
      go_wp2_with fail
      refine hleft.mono ?_
      rintro e w2 ⟨rfl, rfl⟩
      go_wp2
      go_ret
      exact ⟨rfl, rfl⟩
  · rw [if_neg (fun hh => he hh.1)]
    have hd : ((e : Int) == 0) = false := by rw [beq_eq_false_iff_ne]; omega
    clear hleft
    go_wp2
    go_ret
    exact ⟨rfl, rfl⟩

set_option maxRecDepth 1000000 in
set_option maxHeartbeats 1000000 in
theorem frnumbers_any (R : Nat) (l : List UInt8) (e : Nat) (w : World) (h : Rdr w R l e) :
    Calls Try.prog 31 #[.pointer (some ⟨R, 0, none⟩)] w fun r w' => r = .returned (.int .u64 ((Fr.numS l e).2.2 : Int)) ∧ Rdr w' R (Fr.numS l e).1 (Fr.numS l e).2.1 ∧ w.grownBy w' (some R) := by
  by_cases he : e = 0
  · subst he
    have hF : Hid (Fr.numS l 0 = (l.drop (Var.get l).2.1, (Var.get l).2.2, (Var.get l).1)) := by unfold Hid Fr.numS; rw [if_neg (by simp)]
    have hsz : (Var.get l).2.1 ≤ l.length := by
      rcases get_cases l with hz | ⟨g1, g2, g3, g4⟩
      · exact (Fr.get_size hz).2.1
      · omega
    go_enter Try.func31, Try.ntmps31
    go_wp2_with fail
    refine (frhead_yes R l w h).mono ?_
    rintro e w1 ⟨rfl, hr1, hg1⟩
    obtain ⟨A, n, c, h1, h2, h3⟩ := hr1
    have hc0 : w1.cell? ⟨R, 0, none⟩ = some (.slice A n c) := by rw [cell_of_row _ _ _ _ _ _ h1]; rfl
    have hf0 : w1.frozen? ⟨R, 0, none⟩ = false := frozen_of_row _ _ _ _ _ h1
    have hln := h2.len
    generalize (Var.get l).2.1 = s at *
    generalize (Var.get l).2.2 = er at *
    generalize (Var.get l).1 = N at *
    obtain ⟨A2, hrun, hb2, hA2⟩ := cut_bytes_int h2 (k := s) (s : Int) rfl (by omega)
    have HR2 : Hid (Rdr (w1.setCell ⟨R, 0, none⟩ (.slice A2 (n - s) (c - s))) R (l.drop s) er) := by
      refine ⟨A2, n - s, c - s, by rw [heap_setCell_same w1 R 0 _ _ _ h1]; rfl, hb2.keepOut (grownBy_setCell w1 R 0 _) (fun ad e hn => ?_), fun ad e hn => ?_⟩
      · obtain ⟨ad0, e0, hblk⟩ := hA2 ad e
        have := h3 ad0 e0 (by omega)
        omega
      · obtain ⟨ad0, e0, hblk⟩ := hA2 ad e
        have := h3 ad0 e0 (by omega)
        omega
    have HN := Lib.hid hln
    clear h1 h3 hb2 hA2 h h2 hsz hln
    go_wp2
    go_ret
    rw [hF.out]
    exact ⟨rfl, HR2.out, hg1.trans (grownBy_setCell _ _ _ _)⟩
  · have hF : Hid (Fr.numS l e = (l, e, 0)) := by unfold Hid Fr.numS; rw [if_pos he]
    go_enter Try.func31, Try.ntmps31
    go_wp2_with fail
    refine (frhead_no R l e w h he).mono ?_
    rintro e w1 ⟨rfl, rfl⟩
    obtain ⟨A, n, c, h1, h2, h3⟩ := h
    have hc0 : w.cell? ⟨R, 0, none⟩ = some (.slice A n c) := by rw [cell_of_row _ _ _ _ _ _ h1]; rfl
    have hf0 : w.frozen? ⟨R, 0, none⟩ = false := frozen_of_row _ _ _ _ _ h1
    have hln := h2.len
    obtain ⟨A2, hrun, hb2, hA2⟩ := cut_bytes_int h2 (k := 0) (0 : Int) rfl (by omega)
    rw [List.drop_zero] at hb2
    have HR2 : Hid (Rdr (w.setCell ⟨R, 0, none⟩ (.slice A2 (n - 0) (c - 0))) R l e) := by
      refine ⟨A2, n - 0, c - 0, by rw [heap_setCell_same w R 0 _ _ _ h1]; rfl, hb2.keepOut (grownBy_setCell w R 0 _) (fun ad e hn => ?_), fun ad e hn => ?_⟩
      · obtain ⟨ad0, e0, hblk⟩ := hA2 ad e
        have := h3 ad0 e0 (by omega)
        omega
      · obtain ⟨ad0, e0, hblk⟩ := hA2 ad e
        have := h3 ad0 e0 (by omega)
        omega
    have HN := Lib.hid hln
    rw [Nat.sub_zero, Nat.sub_zero] at HR2 hrun
    clear h1 h3 hb2 hA2 h2 hln he
    go_wp2
    go_ret
    rw [hF.out]
    exact ⟨rfl, HR2.out, grownBy_setCell _ _ _ _⟩

set_option maxRecDepth 1000000 in
set_option maxHeartbeats 1000000 in
theorem frframes_any (R M : Nat) (mi : Int) (l : List UInt8) (e : Nat) (w : World) (h : Rdr w R l e) (hl : l.length ≤ 1000000) (hmi : M = mi.toNat) (hmx : mi ≤ 9223372036854775807) (hmn : -9223372036854775808 ≤ mi) :
    Calls Try.prog 34 #[.pointer (some ⟨R, 0, none⟩), .int .i64 mi] w (Framed w R (Fr.frameS l e M)) := by
  by_cases he : e = 0
  · subst he
    have hF : Fr.frameS l 0 M = Fr.frame l M := by unfold Fr.frameS; rw [if_neg (by simp)]
    rw [hF]
    exact frframe_yes R M mi l w h hl hmi hmx hmn
  · have hF : Hid (Fr.frameS l e M = (l, e, [])) := by unfold Hid Fr.frameS; rw [if_pos he]
    have h' := h
    obtain ⟨A, n, c, h1, h2, h3⟩ := h'
    have hc1 : w.cell? ⟨R, 1, none⟩ = some (.int .i64 (e : Int)) := by rw [cell_of_row _ _ _ _ _ _ h1]; rfl
    have hd : ((e : Int) != 0) = true := by rw [bne_iff_ne]; omega
    clear h1 h2 h3 hmi
    go_enter Try.func34, Try.ntmps34
    go_wp2_with fail
    refine (frhead_no R l e w h he).mono ?_
    rintro e w1 ⟨rfl, rfl⟩
    clear he
    go_wp2
    go_ret
    rw [hF.out]
    exact ⟨none, 0, 0, rfl, own_nil _ _, h, World.grownBy.refl _ _⟩

set_option maxRecDepth 1000000 in
set_option maxHeartbeats 1000000 in
theorem frtext_any (R : Nat) (l : List UInt8) (e : Nat) (w : World) (h : Rdr w R l e) (hl : l.length ≤ 1000000) :
    Calls Try.prog 35 #[.pointer (some ⟨R, 0, none⟩)] w fun r w' => r = .returned (.string (str (Fr.frameS l e 1048576).2.2)) ∧ Rdr w' R (Fr.frameS l e 1048576).1 (Fr.frameS l e 1048576).2.1 ∧ w.grownBy w' (some R) := by
  have hcon := frframes_any R 1048576 1048576 l e w h hl (by decide) (by omega) (by omega)
  generalize Fr.frameS l e 1048576 = f at *
  go_enter Try.func35, Try.ntmps35
  go_wp2_with fail
  refine hcon.mono ?_
  rintro e w2 ⟨A2, n2, c2, rfl, hown, hr, hg⟩
  have hbs : Bs w2 A2 n2 c2 f.2.2 := Bs.of_own hown
  have hcv := run_convert_bs (P := Try.prog) w2 22 9 5 Try.underlying22 Try.underlying5 Try.underlying9 hbs
  clear hbs hown
  go_wp2
  go_ret
  exact ⟨rfl, hr, hg⟩
end Go.Proofs.Ytcoilgfjabnoeaa
