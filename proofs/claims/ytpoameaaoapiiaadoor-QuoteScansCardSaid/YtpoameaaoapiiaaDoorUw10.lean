/- tabulariumref02.guess. (Printed by gen_guess.py.) -/
import Derived.Test.YtpoameaaoapiiaaDoorUtf4
namespace Go.Proofs.YtpoameaaoapiiaaDoor
open Go.RowKit

set_option maxHeartbeats 1000000 in
set_option maxRecDepth 100000 in
theorem guess_1 (b : UInt8) (l : List UInt8) (w : World) (hl : l = [b]) :
    Calls Tryd.prog 42 #[.string (str l)] w fun e w' => e = .returned (.int .i64 (guess l)) ∧ Below w.heap.size w w' := by
  have h0 : nth l 0 = (b.toNat : Int) := by rw [hl]; rfl
  have hlen : l.length = 1 := by rw [hl]; rfl
  have hg : guess l = (b.toNat : Int) := by rw [hl]; simp [guess, guessF, leadI]
  have hbb := b.toNat_lt
  have HG := Lib.hid hg
  generalize guess l = ans at *
  clear hl hg
  generalize b.toNat = b0 at *
  go_enter Tryd.func42, Tryd.ntmps42
  go_wp2
  go_quiet (fail)
  go_wp2
  go_rounds 3
  go_returns
  exact ⟨by rw [HG.out]; rfl, by repeat' (first | refine below_drewN ?_ _ | go_grown)⟩
set_option maxHeartbeats 1000000 in
set_option maxRecDepth 100000 in
theorem guess_2 (b x : UInt8) (l : List UInt8) (w : World) (hl : l = [b, x]) :
    Calls Tryd.prog 42 #[.string (str l)] w fun e w' => e = .returned (.int .i64 (guess l)) ∧ Below w.heap.size w w' := by
  have h0 : nth l 0 = (b.toNat : Int) := by rw [hl]; rfl
  have h1 : nth l 1 = (x.toNat : Int) := by rw [hl]; rfl
  have hlen : l.length = 2 := by rw [hl]; rfl
  have hg : guess l = (((b.toNat : Int) - 192) * 64 + (x.toNat : Int) - 128) := by rw [hl]; rfl
  have hbb := b.toNat_lt
  have hbx := x.toNat_lt
  have HG := Lib.hid hg
  generalize guess l = ans at *
  clear hl hg
  generalize b.toNat = b0 at *
  generalize x.toNat = x0 at *
  go_enter Tryd.func42, Tryd.ntmps42
  go_wp2
  go_quiet (fail)
  go_wp2
  go_rounds 4
  go_returns
  exact ⟨by rw [HG.out]; rfl, by repeat' (first | refine below_drewN ?_ _ | go_grown)⟩
set_option maxHeartbeats 1000000 in
set_option maxRecDepth 100000 in
theorem guess_3 (b x y : UInt8) (l : List UInt8) (w : World) (hl : l = [b, x, y]) :
    Calls Tryd.prog 42 #[.string (str l)] w fun e w' => e = .returned (.int .i64 (guess l)) ∧ Below w.heap.size w w' := by
  have h0 : nth l 0 = (b.toNat : Int) := by rw [hl]; rfl
  have h1 : nth l 1 = (x.toNat : Int) := by rw [hl]; rfl
  have h2 : nth l 2 = (y.toNat : Int) := by rw [hl]; rfl
  have hlen : l.length = 3 := by rw [hl]; rfl
  have hg : guess l = ((((b.toNat : Int) - 224) * 64 + (x.toNat : Int) - 128) * 64 + (y.toNat : Int) - 128) := by rw [hl]; rfl
  have hbb := b.toNat_lt
  have hbx := x.toNat_lt
  have hby := y.toNat_lt
  have HG := Lib.hid hg
  generalize guess l = ans at *
  clear hl hg
  generalize b.toNat = b0 at *
  generalize x.toNat = x0 at *
  generalize y.toNat = y0 at *
  go_enter Tryd.func42, Tryd.ntmps42
  go_wp2
  go_quiet (fail)
  go_wp2
  go_rounds 5
  go_returns
  exact ⟨by rw [HG.out]; rfl, by repeat' (first | refine below_drewN ?_ _ | go_grown)⟩
set_option maxHeartbeats 1000000 in
set_option maxRecDepth 100000 in
theorem guess_4 (b x y z : UInt8) (l : List UInt8) (w : World) (hl : l = [b, x, y, z]) :
    Calls Tryd.prog 42 #[.string (str l)] w fun e w' => e = .returned (.int .i64 (guess l)) ∧ Below w.heap.size w w' := by
  have h0 : nth l 0 = (b.toNat : Int) := by rw [hl]; rfl
  have h1 : nth l 1 = (x.toNat : Int) := by rw [hl]; rfl
  have h2 : nth l 2 = (y.toNat : Int) := by rw [hl]; rfl
  have h3 : nth l 3 = (z.toNat : Int) := by rw [hl]; rfl
  have hlen : l.length = 4 := by rw [hl]; rfl
  have hg : guess l = (((((b.toNat : Int) - 240) * 64 + (x.toNat : Int) - 128) * 64 + (y.toNat : Int) - 128) * 64 + (z.toNat : Int) - 128) := by rw [hl]; rfl
  have hbb := b.toNat_lt
  have hbx := x.toNat_lt
  have hby := y.toNat_lt
  have hbz := z.toNat_lt
  have HG := Lib.hid hg
  generalize guess l = ans at *
  clear hl hg
  generalize b.toNat = b0 at *
  generalize x.toNat = x0 at *
  generalize y.toNat = y0 at *
  generalize z.toNat = z0 at *
  go_enter Tryd.func42, Tryd.ntmps42
  go_wp2
  go_quiet (fail)
  go_wp2
  go_rounds 6
  go_returns
  exact ⟨by rw [HG.out]; rfl, by repeat' (first | refine below_drewN ?_ _ | go_grown)⟩
theorem guess_any (l : List UInt8) (w : World) (h1 : 1 ≤ l.length) (h4 : l.length ≤ 4) :
    Calls Tryd.prog 42 #[.string (str l)] w fun e w' => e = .returned (.int .i64 (guess l)) ∧ Below w.heap.size w w' := by
  match l, h1, h4 with
  | [b], _, _ => exact guess_1 b _ w rfl
  | [b, x], _, _ => exact guess_2 b x _ w rfl
  | [b, x, y], _, _ => exact guess_3 b x y _ w rfl
  | [b, x, y, z], _, _ => exact guess_4 b x y z _ w rfl
  | [], h, _ => simp at h
  | _ :: _ :: _ :: _ :: _ :: _, _, h => simp at h
end Go.Proofs.YtpoameaaoapiiaaDoor
