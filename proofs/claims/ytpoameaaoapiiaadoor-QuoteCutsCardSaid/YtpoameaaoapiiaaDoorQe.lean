/- quote: Scan's deferred closure. -/
import Derived.Test.YtpoameaaoapiiaaDoorQd
import Derived.Test.YtpoameaaoapiiaaDoorBld
import Derived.Deep.LoopGhost
import Derived.Deep.RegionHeld3
import Derived.Recover
import Derived.Defers
import Derived.Tactics2
namespace Go.Proofs.YtpoameaaoapiiaaDoor
open Go.RowKit

set_option maxHeartbeats 1000000 in
set_option maxRecDepth 100000 in
theorem scanf_panicking (b0 b1 b2 e : Nat) (s : ByteArray) (n m : Int) (w : World) (older : List PanicEntry) (h01 : b0 < b1) (h12 : b1 < b2)
    (h0 : Boxed w b0 9 (.string s)) (h1 : Boxed w b1 3 (.int .i64 n)) (h2 : Boxed w b2 23 (.int .i64 m)) :
    CallsD Tryd.prog 15 #[.pointer (some ⟨b0, 0, none⟩), .pointer (some ⟨b1, 0, none⟩), .pointer (some ⟨b2, 0, none⟩)] (.panicking ({ v := .iface 23 (.int .i64 e), recovered := false } :: older)) w fun r u' w' =>
      r = .returned (.tuple #[]) ∧ u' = .panicking ({ v := .iface 23 (.int .i64 e), recovered := true } :: older) ∧ Ext (fun k => k = b0 ∨ k = b1 ∨ k = b2) w w' ∧
        Boxed w' b0 9 (.string ⟨#[]⟩) ∧ Boxed w' b1 3 (.int .i64 0) ∧ Boxed w' b2 23 (.int .i64 e) := by
  refine callsD_of_wpS Tryd.func15 rfl fun c₀ cs hu => ?_
  apply wpS_seq
  apply wpS_region
  simp [wpOpsS, go_sem, recoverD, hu, Tryd.ntmps15, Exit.thenS]
  refine wpS_of_wp ?_
  have c0 := h0.cell
  have c1 := h1.cell
  have c2 := h2.cell
  have f0 := h0.frozen
  have f1 := h1.frozen
  have f2 := h2.frozen
  have n01 : ¬ b0 = b1 := by omega
  have n12 : ¬ b1 = b2 := by omega
  have n02 : ¬ b0 = b2 := by omega
  have n10 : ¬ b1 = b0 := by omega
  have n21 : ¬ b2 = b1 := by omega
  have n20 : ¬ b2 = b0 := by omega
  have hta : ∀ W : World, (Instr.typeAssert (.iface 23 (.int .i64 e)) 20 23 false).run Tryd.prog W = .ok (.int .i64 e) W := fun W => by kernel_rfl
  show Code.wp Tryd.prog _ _ { tmps := #[.pointer (some ⟨b0, 0, none⟩), .pointer (some ⟨b1, 0, none⟩), .pointer (some ⟨b2, 0, none⟩), .iface 23 (.int .i64 e), .iface 23 (.int .i64 e), undef, undef, undef, undef], defers := [] } w
  go_wp2
  go_region
  refine ⟨rfl, _, rfl, _, results_none rfl _ _ _, rfl, rfl, ?_, ?_, ?_, ?_⟩
  · exact ((Ext.setCell (T := fun k => k = b0 ∨ k = b1 ∨ k = b2) (p := ⟨b2, 0, none⟩) (Ext.setCell (T := fun k => k = b0 ∨ k = b1 ∨ k = b2) (p := ⟨b1, 0, none⟩) (Ext.setCell (T := fun k => k = b0 ∨ k = b1 ∨ k = b2) (p := ⟨b0, 0, none⟩) (Ext.refl _ w) (.inl rfl) _) (.inr (.inl rfl)) _) (.inr (.inr rfl)) _).drew)
  · exact (((h0.set _).other n01 _).other n02 _)
  · exact (((h1.other n10 _).set _).other n12 _)
  · exact (((h2.other n20 _).other n21 _).set _)

set_option maxHeartbeats 1000000 in
set_option maxRecDepth 100000 in
theorem scanf_idle (a0 a1 a2 : Value) (w : World) :
    CallsD Tryd.prog 15 #[a0, a1, a2] .returning w fun r u' w' => r = .returned (.tuple #[]) ∧ u' = .returning ∧ w' = w := by
  refine callsD_of_wpS Tryd.func15 rfl fun c₀ cs hu => ?_
  apply wpS_seq
  apply wpS_region
  simp [wpOpsS, go_sem, recoverD, hu, Tryd.ntmps15, Exit.thenS]
  refine wpS_of_wp ?_
  show Code.wp Tryd.prog _ _ { tmps := #[a0, a1, a2, .nilIface, .nilIface, undef, undef, undef, undef], defers := [] } w
  go_wp2
  cases c₀
  simp_all [bodyPostS, results, Tryd.results15]

/-- A builder stays through what changes older blocks alone. -/
theorem Bld.ext {T : Nat → Prop} {B b : Nat} {l : List UInt8} {X Y : World} (h : Bld B b l X) (he : Ext T X Y) (hT : ∀ k, T k → k < B) : Bld B b l Y := by
  have one : ∀ p, Lib.BuilderAt 43 5 B b p (bval l) X → Lib.BuilderAt 43 5 B b p (bval l) Y := fun p h1 => by
    have hlt := h1.lt
    obtain ⟨hB, v, hb, hown, hne⟩ := h1
    exact ⟨hB, v, by rw [he.block b hlt (fun ht => by have := hT b ht; omega)]; exact hb, ownsRow_ext hown he (fun g hg ht => by have := hT g ht; have := (hown.lt g hg).1; omega), hne⟩
  rcases h with h | h
  · exact .inl (one _ h)
  · exact .inr (one _ h)

/-- The blocks of Scan: its three results, its reader. -/
structure ScanW (w : World) (l : List UInt8) (i : Nat) (W : World) : Prop where
  below : Below w.heap.size w W
  s : Boxed W w.heap.size 9 (.string ⟨#[]⟩)
  n : Boxed W (w.heap.size + 1) 3 (.int .i64 0)
  e : Boxed W (w.heap.size + 1 + 1) 23 (.int .i64 0)
  r : Qrd (w.heap.size + 1 + 1 + 1) l i W

/-- What Scan hands back. -/
def scanV (q : Qt.Pt) : Value := .tuple #[.string (str q.s), .int .i64 q.n, .int .i64 q.e]

/-- Scan's own slots. -/
def ScanT (w : World) (tmps : Array Value) : Prop :=
  tmps[2]?.getD undef = .pointer (some ⟨w.heap.size, 0, none⟩) ∧ tmps[3]?.getD undef = .pointer (some ⟨w.heap.size + 1, 0, none⟩) ∧ tmps[4]?.getD undef = .pointer (some ⟨w.heap.size + 1 + 1, 0, none⟩)
theorem scan_results {w W : World} {tmps : Array Value} (ht : ScanT w tmps) {x y z : Value} (h0 : Boxed W w.heap.size 9 x) (h1 : Boxed W (w.heap.size + 1) 3 y) (h2 : Boxed W (w.heap.size + 1 + 1) 23 z) (hx : ∃ s, x = .string s) (hy : ∃ n, y = .int .i64 n) (hz : ∃ n, z = .int .i64 n) :
    (results Tryd.f9 tmps).run Tryd.prog W = .ok (.tuple #[x, y, z]) W := by
  obtain ⟨t2, t3, t4⟩ := ht
  have c0 := h0.cell
  have c1 := h1.cell
  have c2 := h2.cell
  obtain ⟨s, rfl⟩ := hx
  obtain ⟨n, rfl⟩ := hy
  obtain ⟨m, rfl⟩ := hz
  simp [results, Tryd.results9, t2, t3, t4, go_sem, c0, c1, c2]
/-- The deferred call that lies there. -/
abbrev scanD (w : World) : List Deferred := [{ target := .fn (.func 15) #[.pointer (some ⟨w.heap.size, 0, none⟩), .pointer (some ⟨w.heap.size + 1, 0, none⟩), .pointer (some ⟨w.heap.size + 1 + 1, 0, none⟩)], args := #[] }]
theorem scan_dies {w W : World} {e : Nat} {r : Qt.Pt} {tmps : Array Value} (hr : Hid (r = Qt.err e)) (hS : Below w.heap.size w W ∧ Boxed W w.heap.size 9 (.string ⟨#[]⟩) ∧ Boxed W (w.heap.size + 1) 3 (.int .i64 0) ∧ Boxed W (w.heap.size + 1 + 1) 23 (.int .i64 0)) (ht : ScanT w tmps) :
    bodyPostD Tryd.prog Tryd.f9 (fun e w' => e = .returned (scanV r) ∧ Below w.heap.size w w') (.panic [{ v := .iface 23 (.int .i64 e), recovered := false }]) { tmps, defers := scanD w } W := by
  refine leaves_cons (f := 15) (args := #[.pointer (some ⟨w.heap.size, 0, none⟩), .pointer (some ⟨w.heap.size + 1, 0, none⟩), .pointer (some ⟨w.heap.size + 1 + 1, 0, none⟩)]) (by simp) (by simp [go_sem]) ?_
  refine (scanf_panicking w.heap.size (w.heap.size + 1) (w.heap.size + 1 + 1) e _ _ _ W [] (by omega) (by omega) hS.2.1 hS.2.2.1 hS.2.2.2).mono ?_
  rintro q u' w'' ⟨rfl, rfl, hE, b0, b1, b2⟩
  refine ⟨_, scan_results ht b0 b1 b2 ⟨_, rfl⟩ ⟨_, rfl⟩ ⟨_, rfl⟩, ?_, hS.1.trans ⟨hE.os, hE.tape, hE.output, hE.size, fun k hk => hE.block k (by have := hS.1.size; omega) (by omega)⟩⟩
  rw [hr.out]; rfl
theorem scan_tells {w W : World} {s : List UInt8} {n e : Nat} {r : Qt.Pt} {tmps : Array Value} (hr : Hid (r = ⟨s, n, e⟩)) (hB : Below w.heap.size w W) (h0 : Boxed W w.heap.size 9 (.string (str s))) (h1 : Boxed W (w.heap.size + 1) 3 (.int .i64 n)) (h2 : Boxed W (w.heap.size + 1 + 1) 23 (.int .i64 e)) (ht : ScanT w tmps) :
    bodyPostD Tryd.prog Tryd.f9 (fun e w' => e = .returned (scanV r) ∧ Below w.heap.size w w') .ret { tmps, defers := scanD w } W := by
  refine leaves_cons (f := 15) (args := #[.pointer (some ⟨w.heap.size, 0, none⟩), .pointer (some ⟨w.heap.size + 1, 0, none⟩), .pointer (some ⟨w.heap.size + 1 + 1, 0, none⟩)]) (by simp) (by simp [go_sem]) ?_
  refine (scanf_idle _ _ _ W).mono ?_
  rintro q u' w'' ⟨rfl, rfl, rfl⟩
  refine ⟨_, scan_results ht h0 h1 h2 ⟨_, rfl⟩ ⟨_, rfl⟩ ⟨_, rfl⟩, ?_, hB⟩
  rw [hr.out]; rfl
theorem ScanW.ext {w W W' : World} {l : List UInt8} {i j : Nat} (h : ScanW w l i W) (hE : QE (w.heap.size + 1 + 1 + 1) W W') (hR : Qrd (w.heap.size + 1 + 1 + 1) l j W') : ScanW w l j W' :=
  ⟨h.below.trans ⟨hE.os, hE.tape, hE.output, hE.size, fun k hk => hE.block k (by have := h.below.size; omega) (by omega)⟩, boxed_ext h.s hE (by omega), boxed_ext h.n hE (by omega), boxed_ext h.e hE (by omega), hR⟩
theorem ScanW.below' {w W W' : World} {l : List UInt8} {i B : Nat} (h : ScanW w l i W) (hB : Below B W W') (hk : w.heap.size + 1 + 1 + 1 < B) : ScanW w l i W' :=
  ⟨h.below.trans (hB.mono (by omega)), (hB.block _ (by omega)).trans h.s, (hB.block _ (by omega)).trans h.n, (hB.block _ (by omega)).trans h.e, (hB.block _ (by omega)).trans h.r⟩
/-- All but the reader's place. -/
theorem ScanW.after {w W W' : World} {l : List UInt8} {i : Nat} (h : ScanW w l i W) (hE : QE (w.heap.size + 1 + 1 + 1) W W') :
    Below w.heap.size w W' ∧ Boxed W' w.heap.size 9 (.string ⟨#[]⟩) ∧ Boxed W' (w.heap.size + 1) 3 (.int .i64 0) ∧ Boxed W' (w.heap.size + 1 + 1) 23 (.int .i64 0) :=
  ⟨h.below.trans ⟨hE.os, hE.tape, hE.output, hE.size, fun k hk => hE.block k (by have := h.below.size; omega) (by omega)⟩, boxed_ext h.s hE (by omega), boxed_ext h.n hE (by omega), boxed_ext h.e hE (by omega)⟩
end Go.Proofs.YtpoameaaoapiiaaDoor
