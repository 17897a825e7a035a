/- quote: Scan of anything, Parse. -/
import Derived.Test.YtpoameaaoapiiaaDoorQf
namespace Go.Proofs.YtpoameaaoapiiaaDoor
open Go.RowKit

set_option maxHeartbeats 4000000 in
set_option maxRecDepth 1000000 in
theorem qscan_no (l : List UInt8) (w : World) (hl : l.length ≤ 1000000) (h : 0 < l.length → Qt.bt l 0 ≠ 34) :
    Calls Tryd.prog 9 #[.string (str l)] w fun e w' => e = .returned (scanV (Qt.scan l)) ∧ Below w.heap.size w w' := by
  have hmf : ∀ (fn : Fn) (first cap : Array Value) (w : World), (Instr.makeFunc fn first cap).run Tryd.prog w = .ok (.func fn first cap) w := fun _ _ _ _ => rfl
  obtain ⟨r, hr⟩ : ∃ r, r = Qt.scan l := ⟨_, rfl⟩
  rw [← hr]
  have HR : Hid (r = Qt.err (exErr l 0)) := by
    unfold Hid exErr
    rw [hr]
    cases l with
    | nil => rfl
    | cons c t => rw [Qt.scan_cons, if_pos (show c.toNat ≠ 34 from h (by simp)), if_pos (by simp)]
  clear hr
  generalize hee : exErr l 0 = ee at HR
  go_enter_defers Tryd.func9, Tryd.ntmps9
  go_wp2_with fail
  have hW0 : ScanW w l 0 ((((w.alloc (.cells #[.string ⟨#[]⟩] 9)).alloc (.cells #[.int .i64 0] 3)).alloc (.cells #[.int .i64 0] 23)).alloc (.cells #[.string (str l), .int .i64 0] 38)) := scanW_new w l
  generalize hW : (((w.alloc (.cells #[.string ⟨#[]⟩] 9)).alloc (.cells #[.int .i64 0] 3)).alloc (.cells #[.int .i64 0] 23)).alloc (.cells #[.string (str l), .int .i64 0] 38) = W at *
  refine (qexactly_no _ 0 34 l W hW0.r (by omega) h).mono ?_
  clear hW
  rintro e w2 ⟨rfl, hE2⟩
  rw [hee]
  clear hee
  go_wp2
  exact scan_dies HR (hW0.after hE2) ⟨rfl, rfl, rfl⟩
theorem qscan_any (l : List UInt8) (w : World) (hF : Forms w) (hl : l.length ≤ 1000000) :
    Calls Tryd.prog 9 #[.string (str l)] w fun e w' => e = .returned (scanV (Qt.scan l)) ∧ Below w.heap.size w w' := by
  by_cases h : 0 < l.length → Qt.bt l 0 ≠ 34
  · exact qscan_no l w hl h
  · cases l with
    | nil => exact absurd (fun h => absurd h (by simp)) h
    | cons c rest =>
      refine qscan_go c rest w hF hl ?_
      refine Decidable.byContradiction fun hc => h fun _ => hc

/-- What Parse tells. -/
def Qt.parse (l : List UInt8) : List UInt8 × Nat := if (Qt.scan l).e ≠ 0 then ([], (Qt.scan l).e) else if (Qt.scan l).n < l.length then ([], 14) else ((Qt.scan l).s, 0)
set_option maxHeartbeats 1000000 in
set_option maxRecDepth 100000 in
theorem qparse_any (l : List UInt8) (w : World) (hF : Forms w) (hl : l.length ≤ 1000000) :
    Calls Tryd.prog 11 #[.string (str l)] w fun e w' => e = .returned (.tuple #[.string (str (Qt.parse l).1), .int .i64 (Qt.parse l).2]) ∧ Below w.heap.size w w' := by
  have hcon := qscan_any l w hF hl
  obtain ⟨v, hv⟩ : ∃ v, v = Qt.parse l := ⟨_, rfl⟩
  rw [← hv]
  unfold Qt.parse at hv
  obtain ⟨s, n, e, hq⟩ : ∃ s n e, Qt.scan l = ⟨s, n, e⟩ := ⟨_, _, _, rfl⟩
  rw [hq] at hcon hv
  simp only [scanV] at hcon hv
  have e0 : str [] = ⟨#[]⟩ := rfl
  clear hq
  go_enter Tryd.func11, Tryd.ntmps11
  by_cases h1 : e = 0
  · rw [if_neg (by simpa using h1)] at hv
    subst h1
    by_cases h2 : n < l.length
    · rw [if_pos h2] at hv
      have HV := Lib.hid hv
      have hd : decide (n < l.length) = true := decide_eq_true h2
      clear hv h2
      go_wp2_with fail
      refine hcon.mono ?_
      rintro e w' ⟨rfl, hB⟩
      go_wp2
      go_ret2
      exact ⟨by rw [HV.out]; rfl, hB⟩
    · rw [if_neg h2] at hv
      have HV := Lib.hid hv
      have hd : decide (n < l.length) = false := decide_eq_false h2
      clear hv h2
      go_wp2_with fail
      refine hcon.mono ?_
      rintro e w' ⟨rfl, hB⟩
      go_wp2
      go_ret2
      exact ⟨by rw [HV.out]; rfl, hB⟩
  · rw [if_pos (by simpa using h1)] at hv
    have HV := Lib.hid hv
    have hd : ((e : Int) != 0) = true := by simp; omega
    clear hv
    go_wp2_with fail
    refine hcon.mono ?_
    rintro e w' ⟨rfl, hB⟩
    go_wp2
    go_ret2
    exact ⟨by rw [HV.out]; rfl, hB⟩
end Go.Proofs.YtpoameaaoapiiaaDoor
