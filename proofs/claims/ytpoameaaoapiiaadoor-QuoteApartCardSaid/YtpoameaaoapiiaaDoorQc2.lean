/- quote: escape, of two units. -/
import Derived.Test.YtpoameaaoapiiaaDoorQb
import Derived.Test.YtpoameaaoapiiaaDoorUw9
namespace Go.Proofs.YtpoameaaoapiiaaDoor
open Go.RowKit

def signsL : List UInt8 := [34, 92, 47, 98, 102, 110, 114, 116]
def meansL : List UInt8 := [34, 92, 47, 8, 12, 10, 13, 9]
theorem sgn_eq : ∀ c : Fin 256, (Qt.mean c.val = 0 ∧ Lib.indexByte (ByteArray.mk #[34, 92, 47, 98, 102, 110, 114, 116]).data.toList ((c.val : Int).toNat.toUInt8) = -1) ∨
    (Qt.mean c.val ≠ 0 ∧ ∃ k : Fin 8, Lib.indexByte (ByteArray.mk #[34, 92, 47, 98, 102, 110, 114, 116]).data.toList ((c.val : Int).toNat.toUInt8) = (k.val : Int) ∧ (meansL.drop k.val).take 1 = [UInt8.ofNat (Qt.mean c.val)]) := by decide +kernel
theorem sgn_no (c : Nat) (w : World) (hc : c < 256) (hm : Qt.mean c = 0) : Calls Tryd.prog 26 #[.string (ByteArray.mk #[34, 92, 47, 98, 102, 110, 114, 116]), .int .u8 c] w fun e w' => e = .returned (.int .i64 (-1)) ∧ w = w' := by
  refine (Tryd.strings_IndexByte _ _ w).mono ?_
  rintro e w' ⟨rfl, rfl⟩
  rcases sgn_eq ⟨c, hc⟩ with ⟨_, h⟩ | ⟨h, _⟩
  · exact ⟨by rw [h], rfl⟩
  · exact absurd hm h
theorem sgn_yes (c : Nat) (hc : c < 256) (hm : Qt.mean c ≠ 0) : ∃ k : Nat, k < 8 ∧ (meansL.drop k).take 1 = [UInt8.ofNat (Qt.mean c)] ∧ ∀ w, Calls Tryd.prog 26 #[.string (ByteArray.mk #[34, 92, 47, 98, 102, 110, 114, 116]), .int .u8 c] w fun e w' => e = .returned (.int .i64 k) ∧ w = w' := by
  rcases sgn_eq ⟨c, hc⟩ with ⟨h, _⟩ | ⟨_, k, h1, h2⟩
  · exact absurd h hm
  · refine ⟨k.val, k.isLt, h2, fun w => (Tryd.strings_IndexByte _ _ w).mono ?_⟩
    rintro e w' ⟨rfl, rfl⟩
    exact ⟨by rw [h1], rfl⟩

theorem must_no' (c : Bool) (e : Int) (w : World) (hc : c = false) : Calls Tryd.prog 17 #[.bool c, .int .i64 e] w fun r w' => r = .panicked [{ v := .iface 23 (.int .i64 e), recovered := false }] ∧ w = w' := by
  rw [hc]; exact must_no e w
theorem must_yes' (c : Bool) (e : Int) (w : World) (hc : c = true) : Calls Tryd.prog 17 #[.bool c, .int .i64 e] w fun r w' => r = .returned (.tuple #[]) ∧ w = w' := by
  rw [hc]; exact must_yes e w

/-- What reading a part leaves. -/
def Qres (b : Nat) (l : List UInt8) (w : World) (q : Qt.Pt) (p : Nat) (e : Ending) (w' : World) : Prop :=
  QE b w w' ∧ ((q.e = 0 ∧ e = .returned (.string (str q.s)) ∧ Qrd b l p w') ∨ (q.e ≠ 0 ∧ e = dies q.e))
theorem Qres.yes {b : Nat} {l : List UInt8} {w w' : World} {q : Qt.Pt} {p : Nat} {s : List UInt8} {n : Nat} (h : Hid (q = ⟨s, n, 0⟩)) (hE : QE b w w') (hR : Qrd b l p w') : Qres b l w q p (.returned (.string (str s))) w' := by
  rw [h.out]; exact ⟨hE, .inl ⟨rfl, rfl, hR⟩⟩
theorem Qres.no {b : Nat} {l : List UInt8} {w w' : World} {q : Qt.Pt} {p : Nat} {e : Nat} (h : Hid (q = Qt.err e)) (he : e ≠ 0) (hE : QE b w w') : Qres b l w q p (dies e) w' := by
  rw [h.out]; exact ⟨hE, .inr ⟨he, rfl⟩⟩
theorem forms_QE {b i : Nat} {l : List UInt8} {w w' : World} (hF : Forms w) (hR : Qrd b l i w) (hE : QE b w w') : Forms w' := by
  have hne : 0 ≠ b := by
    rintro rfl
    have h2 := hF.2 2 (by omega)
    unfold Qrd at hR
    simp [World.cell?, hR] at h2
  exact ⟨Nat.lt_of_lt_of_le hF.1 hE.size, fun j hj => (World.cell?_of_block (a := ⟨0, j, none⟩) (hE.block _ hF.1 hne)).trans (hF.2 j hj)⟩

theorem qunit_ok (b i n : Nat) (l : List UInt8) (w : World) (hR : Qrd b l i w) (hl : l.length ≤ 1000000000) (hn : Qt.unitF 4 0 (l.drop i) = (n, 0)) :
    Calls Tryd.prog 31 #[.pointer (some ⟨b, 0, none⟩)] w fun e w' => e = .returned (.int .i64 n) ∧ Qrd b l (i + 4) w' ∧ QE b w w' := by
  refine (qunit_any b i l w hR hl).mono ?_
  rintro e w' ⟨hE, (⟨_, rfl, h⟩ | ⟨h, _⟩)⟩
  · rw [hn]; exact ⟨rfl, h, hE⟩
  · rw [hn] at h; exact absurd rfl h
theorem qunit_no (b i n e : Nat) (l : List UInt8) (w : World) (hR : Qrd b l i w) (hl : l.length ≤ 1000000000) (hn : Qt.unitF 4 0 (l.drop i) = (n, e)) (he : e ≠ 0) :
    Calls Tryd.prog 31 #[.pointer (some ⟨b, 0, none⟩)] w fun r w' => r = dies e ∧ QE b w w' := by
  refine (qunit_any b i l w hR hl).mono ?_
  rintro e w' ⟨hE, (⟨h, _⟩ | ⟨_, rfl⟩)⟩
  · rw [hn] at h; exact absurd h he
  · rw [hn]; exact ⟨rfl, hE⟩

set_option maxHeartbeats 4000000 in
set_option maxRecDepth 1000000 in
theorem qescape_two (b i n : Nat) (l : List UInt8) (w : World) (hR : Qrd b l i w) (hF : Forms w) (hl : l.length ≤ 1000000000) (hlt : i < l.length) (hc : Qt.bt l i = 117)
    (hn : Qt.unitF 4 0 (l.drop (i + 1)) = (n, 0)) (h1 : 55296 ≤ n) (h2 : n < 56320) (q : Qt.Pt) (hq : q = Qt.low n (l.drop (i + 5))) :
    Calls Tryd.prog 20 #[.pointer (some ⟨b, 0, none⟩)] w (Qres b l w q (i + q.n - 1)) := by
  have hby := qbyte_ok b i l w hR hlt hl
  rw [hc] at hby
  have hsg := fun W => sgn_no 117 W (by omega) (by decide)
  have hun := fun W hR => qunit_ok b (i + 1) n l W hR hl hn
  rw [Qt.low_at, Qt.low2.eq_def] at hq
  rw [show i + 5 + 1 = i + 6 by omega, show i + 5 + 2 = i + 7 by omega] at hq
  have hlt2 := Qt.unit_lt (l.drop (i + 7))
  obtain ⟨m, e2, hmf⟩ : ∃ m f, Qt.unitF 4 0 (l.drop (i + 7)) = (m, f) := ⟨_, _, rfl⟩
  rw [hmf] at hq hlt2
  simp only at hq hlt2
  have HQ := Lib.hid hq
  have HM := Lib.hid hmf
  have b1 : decide ((n : Int) < 56320) = true := by simp; omega
  have b2 : decide ((55296 : Int) ≤ (n : Int)) = true := by simp; omega
  have HN := Lib.hid (And.intro h1 (And.intro h2 hlt2))
  clear hq hmf h1 h2 hlt2 hn hc
  go_enter Tryd.func20, Tryd.ntmps20
  go_wp2_with fail
  refine hby.mono ?_
  rintro e w2 ⟨rfl, hR2, hE2⟩
  go_wp2_with fail
  refine (hsg _).mono ?_
  rintro e w3 ⟨rfl, rfl⟩
  go_wp2_with (first | (go_at_call 17; refine (must_yes _ _).mono ?_; rintro e w2 ⟨rfl, rfl⟩))
  refine (hun _ hR2).mono ?_
  rintro e w3 ⟨rfl, hR3, hE3⟩
  have HE3 := Lib.hid (hE2.trans hE3)
  clear hE2 hE3 hR2 hun hby hsg
  go_wp2_with fail
  refine (must_yes' _ _ _ (by simp)).mono ?_
  rintro e w4 ⟨rfl, rfl⟩
  by_cases g1 : i + 5 < l.length ∧ Qt.bt l (i + 5) = 92
  · have hx1 := fun W hR => qexactly_ok b (i + 5) 92 l W hR g1.1 hl g1.2
    have G1 := Lib.hid g1
    clear g1
    go_wp2_with fail
    refine (hx1 _ hR3).mono ?_
    rintro e w4 ⟨rfl, hR4, hE4⟩
    clear hx1
    by_cases g2 : i + 6 < l.length ∧ Qt.bt l (i + 6) = 117
    · have hx2 := fun W hR => qexactly_ok b (i + 6) 117 l W hR g2.1 hl g2.2
      have HQ2 : Hid (q = if e2 ≠ 0 then Qt.err e2 else if m < 56320 ∨ 57343 < m then Qt.err 3 else ⟨Utf.enc (65536 + (n - 55296) * 1024 + m - 56320), 12, 0⟩) := by
        unfold Hid
        have := G1.out
        rw [HQ.out, if_neg (by omega), if_neg (by simp [this.2]), if_neg (by omega), if_neg (by simp [g2.2])]
      clear HQ g2
      go_wp2_with fail
      refine (hx2 _ hR4).mono ?_
      rintro e w5 ⟨rfl, hR5, hE5⟩
      clear hx2 hR4
      by_cases g3 : e2 = 0
      · subst g3
        have hun := fun W hR => qunit_ok b (i + 7) m l W hR hl HM.out
        go_wp2_with fail
        refine (hun _ hR5).mono ?_
        rintro e w6 ⟨rfl, hR6, hE6⟩
        have HE6 := Lib.hid ((HE3.out.trans hE4).trans (hE5.trans hE6))
        have HR6 := Lib.hid hR6
        clear hE4 hE5 hE6 hR5 hR6 hun HM HE3 hR3
        by_cases g4 : m < 56320 ∨ 57343 < m
        · have HQ3 : Hid (q = Qt.err 3) := by unfold Hid; rw [HQ2.out, if_neg (by simp), if_pos g4]
          clear HQ2
          rcases g4 with g4 | g4
          · have c1 : decide ((56320 : Int) ≤ (m : Int)) = false := by simp; omega
            clear g4
            go_wp2_with fail
            refine (must_no' _ _ _ (by simp)).mono ?_
            rintro e w4 ⟨rfl, rfl⟩
            go_wp2
            exact ⟨rfl, Qres.no HQ3 (by decide) HE6.out⟩
          · have c1 : decide ((56320 : Int) ≤ (m : Int)) = true := by simp; omega
            have c2 : decide ((m : Int) ≤ 57343) = false := by simp; omega
            clear g4
            go_wp2_with fail
            refine (must_no' _ _ _ (by simp)).mono ?_
            rintro e w4 ⟨rfl, rfl⟩
            go_wp2
            exact ⟨rfl, Qres.no HQ3 (by decide) HE6.out⟩
        · obtain ⟨h1, h2, h3⟩ := HN.out
          obtain ⟨v, hv⟩ : ∃ v : Nat, v = 65536 + (n - 55296) * 1024 + m - 56320 := ⟨_, rfl⟩
          have HQ3 : Hid (q = ⟨Utf.enc v, 12, 0⟩) := by unfold Hid; rw [HQ2.out, if_neg (by simp), if_neg g4, hv]
          have c1 : decide ((56320 : Int) ≤ (m : Int)) = true := by simp; omega
          have c2 : decide ((m : Int) ≤ 57343) = true := by simp; omega
          have x1 : IntKind.i64.wrap ((n : Int) - 55296) = (n : Int) - 55296 := IntWalk.i64_in _ (by omega)
          have x2 : IntKind.i64.wrap (((n : Int) - 55296) * 1024) = ((n : Int) - 55296) * 1024 := IntWalk.i64_in _ (by omega)
          have x3 : IntKind.i64.wrap (65536 + ((n : Int) - 55296) * 1024) = 65536 + ((n : Int) - 55296) * 1024 := IntWalk.i64_in _ (by omega)
          have x4 : IntKind.i64.wrap (65536 + ((n : Int) - 55296) * 1024 + m) = 65536 + ((n : Int) - 55296) * 1024 + m := IntWalk.i64_in _ (by omega)
          have x5 : IntKind.i64.wrap (65536 + ((n : Int) - 55296) * 1024 + m - 56320) = (v : Int) := by
            rw [IntWalk.i64_in _ (by omega), hv]; omega
          have hput := utfput_any v w6 (forms_QE hF hR HE6.out)
          rw [encI_nat] at hput
          clear HQ2 h1 h2 h3 g4 hv HN
          go_wp2_with fail
          refine (must_yes' _ _ _ (by simp)).mono ?_
          rintro e w4 ⟨rfl, rfl⟩
          clear c1 c2
          go_wp2_with fail
          refine hput.mono ?_
          rintro e w7 ⟨rfl, hB4⟩
          go_wp2
          go_returns
          exact Qres.yes HQ3 (HE6.out.trans (QE.of_below hB4)) (by rw [HQ3.out]; exact HR6.out.below hB4)
      · have HQ3 : Hid (q = Qt.err e2) := by unfold Hid; rw [HQ2.out, if_pos g3]
        have hun := fun W hR => qunit_no b (i + 7) m e2 l W hR hl HM.out g3
        clear HQ2
        go_wp2_with fail
        refine (hun _ hR5).mono ?_
        rintro e w6 ⟨rfl, hE6⟩
        go_wp2
        exact ⟨rfl, Qres.no HQ3 g3 ((HE3.out.trans hE4).trans (hE5.trans hE6))⟩
    · have hx2 := fun W hR => qexactly_no b (i + 6) 117 l W hR hl (fun h he => g2 ⟨h, he⟩)
      have HQ3 : Hid (q = Qt.err (exErr l (i + 6))) := by
        unfold Hid exErr
        have := G1.out
        rw [HQ.out, if_neg (by omega), if_neg (by simp [this.2])]
        by_cases h : i + 6 < l.length
        · rw [if_neg (by omega), if_pos h, if_pos (fun he => g2 ⟨h, he⟩)]
        · rw [if_pos (by omega), if_neg h]
      have hne : exErr l (i + 6) ≠ 0 := by unfold exErr; split <;> omega
      generalize exErr l (i + 6) = ee at *
      clear g2 HQ
      go_wp2_with fail
      refine (hx2 _ hR4).mono ?_
      rintro e w6 ⟨rfl, hE6⟩
      go_wp2
      exact ⟨rfl, Qres.no HQ3 hne ((HE3.out.trans hE4).trans hE6)⟩
  · have hx1 := fun W hR => qexactly_no b (i + 5) 92 l W hR hl (fun h he => g1 ⟨h, he⟩)
    have HQ3 : Hid (q = Qt.err (exErr l (i + 5))) := by
      unfold Hid exErr
      rw [HQ.out]
      by_cases h : i + 5 < l.length
      · rw [if_neg (by omega), if_pos h, if_pos (fun he => g1 ⟨h, he⟩)]
      · rw [if_pos (by omega), if_neg h]
    have hne : exErr l (i + 5) ≠ 0 := by unfold exErr; split <;> omega
    generalize exErr l (i + 5) = ee at *
    clear g1 HQ
    go_wp2_with fail
    refine (hx1 _ hR3).mono ?_
    rintro e w6 ⟨rfl, hE6⟩
    go_wp2
    exact ⟨rfl, Qres.no HQ3 hne (HE3.out.trans hE6)⟩
end Go.Proofs.YtpoameaaoapiiaaDoor
