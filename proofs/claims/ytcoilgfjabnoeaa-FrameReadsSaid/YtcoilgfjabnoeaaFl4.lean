/- FrameReads. -/
import Derived.Test.YtcoilgfjabnoeaaFl1
import Derived.Test.YtcoilgfjabnoeaaFre
import Derived.Test.YtcoilgfjabnoeaaSeq
import Derived.Deep.DeepCutAuto
import Derived.Deep.CutBlock
import Derived.Outline
import Derived.Deep.RegionHeld3
namespace Go.Proofs.Ytcoilgfjabnoeaa
open Go.RowKit

/-- Ops as cells. -/
def opv (l : List (Nat × Int)) : List Value := l.flatMap fun x => [.int .u8 x.1, .int .i64 x.2]
theorem opv_length (l : List (Nat × Int)) : (opv l).length = l.length * 2 := by
  induction l with
  | nil => rfl
  | cons x l ih => simp only [opv, List.flatMap_cons, List.length_append, List.length_cons, List.length_nil] at ih ⊢; omega
theorem opv_get {l : List (Nat × Int)} {k : Nat} (h : k < l.length) : (opv l)[k * 2]? = some (.int .u8 (l[k].1 : Int)) ∧ (opv l)[k * 2 + 1]? = some (.int .i64 l[k].2) := by
  induction l generalizing k with
  | nil => simp at h
  | cons x l ih =>
    cases k with
    | zero => exact ⟨rfl, rfl⟩
    | succ k =>
      have := ih (k := k) (by simpa using h)
      have e : opv (x :: l) = (.int .u8 x.1) :: (.int .i64 x.2) :: opv l := rfl
      rw [e, show (k + 1) * 2 = k * 2 + 1 + 1 by omega]
      simpa using this

theorem addr_head (g m : Nat) : (⟨g, 0, none⟩ : Addr).add m = ⟨g, m, none⟩ := by unfold Addr.add; split <;> simp_all
theorem Fr.takeS_len (l : List UInt8) (e : Nat) (k : Int) : (Fr.takeS l e k).2.2.length ≤ l.length := by
  unfold Fr.takeS; split
  · simp
  · split
    · simp
    · simp; omega
theorem Fr.frameS_len (l : List UInt8) (e m : Nat) : (Fr.frameS l e m).2.2.length ≤ l.length := by
  unfold Fr.frameS; split
  · simp
  · unfold Fr.frame; split
    · simp
    · split
      · simp
      · split
        · simp
        · simp; omega
/-- Two readers, side by side: the program's in block R, the document's in block X. -/
structure FrI (w : World) (R X : Nat) (A : Option Addr) (n c : Nat) (l2 : List UInt8) (e2 at' e : Nat) (W : World) : Prop where
  ext : Ext (fun k => k = R ∨ k = X) w W
  rdr : Rdr W R l2 e2
  x : W.heap[X]? = some (.cells #[.slice A n c, .int .i64 at', .int .i64 e] 52 (0, 0))
  le : at' ≤ n
  ne : R < X
  xw : X < w.heap.size
section
variable {w : World} {R X : Nat} {A : Option Addr} {n c : Nat} {l2 : List UInt8} {e2 at' e : Nat} {W W' : World}
theorem FrI.lt (h : FrI w R X A n c l2 e2 at' e W) : X < W.heap.size := (Array.getElem?_eq_some_iff.1 h.x).1
theorem FrI.x0 (h : FrI w R X A n c l2 e2 at' e W) : W.cell? ⟨X, 0, none⟩ = some (.slice A n c) := by rw [cell_of_row _ _ _ _ _ _ h.x]; rfl
theorem FrI.x1 (h : FrI w R X A n c l2 e2 at' e W) : W.cell? ⟨X, 1, none⟩ = some (.int .i64 at') := by rw [cell_of_row _ _ _ _ _ _ h.x]; rfl
theorem FrI.x2 (h : FrI w R X A n c l2 e2 at' e W) : W.cell? ⟨X, 2, none⟩ = some (.int .i64 e) := by rw [cell_of_row _ _ _ _ _ _ h.x]; rfl
theorem FrI.xf (h : FrI w R X A n c l2 e2 at' e W) (j : Nat) : W.frozen? ⟨X, j, none⟩ = false := frozen_of_row _ _ _ _ _ h.x
theorem FrI.below (h : FrI w R X A n c l2 e2 at' e W) (hB : Below W.heap.size W W') : FrI w R X A n c l2 e2 at' e W' :=
  ⟨h.ext.trans (.of_below hB), h.rdr.below hB, (hB.block _ h.lt).trans h.x, h.le, h.ne, h.xw⟩
theorem FrI.alloc (h : FrI w R X A n c l2 e2 at' e W) (o : Obj) : FrI w R X A n c l2 e2 at' e (W.alloc o) := h.below ((Below.refl _ _).alloc (Nat.le_refl _) o)
theorem FrI.drewN (h : FrI w R X A n c l2 e2 at' e W) (k : Nat) : FrI w R X A n c l2 e2 at' e (W.drewN k) := h.below (below_drewN_self _ _ k)
theorem FrI.read (h : FrI w R X A n c l2 e2 at' e W) {l3 : List UInt8} {e3 : Nat} (hr : Rdr W' R l3 e3) (hg : W.grownBy W' (some R)) : FrI w R X A n c l3 e3 at' e W' :=
  ⟨h.ext.trans (.of_grown hg (fun r hr => .inl (Option.some.inj hr).symm)), hr, (hg.block _ h.lt (by have := h.ne; simp; omega)).trans h.x, h.le, h.ne, h.xw⟩
/-- What was there and isn't one of the two is as it was. -/
theorem FrI.other (h : FrI w R X A n c l2 e2 at' e W) {B : Option Addr} {m d : Nat} {l : List UInt8} (hb : Bs w B m d l) (hB : ∀ ad, B = some ad → 0 < m → ad.block < R) : Bs W B m d l :=
  hb.keepT (T := fun k => k = R ∨ k = X) (fun ad e hn hT => by have := hB ad e hn; have := h.ne; omega) h.ext.size (fun k hk hT => h.ext.block k hk hT)
theorem FrI.setX (h : FrI w R X A n c l2 e2 at' e W) (at2 e3 : Nat) (hat : at2 ≤ n) :
    FrI w R X A n c l2 e2 at2 e3 (((W.setCell ⟨X, 0, none⟩ (.slice A n c)).setCell ⟨X, 1, none⟩ (.int .i64 at2)).setCell ⟨X, 2, none⟩ (.int .i64 e3)) := by
  have k1 := heap_setCell_same W X 0 _ _ (.slice A n c) h.x
  have k2 := heap_setCell_same _ X 1 _ _ (.int .i64 (at2 : Int)) k1
  have k3 := heap_setCell_same _ X 2 _ _ (.int .i64 (e3 : Int)) k2
  have hE : Ext (fun k => k = X) W (((W.setCell ⟨X, 0, none⟩ (.slice A n c)).setCell ⟨X, 1, none⟩ (.int .i64 at2)).setCell ⟨X, 2, none⟩ (.int .i64 e3)) :=
    Ext.setCell (T := fun k => k = X) (p := ⟨X, 2, none⟩) (Ext.setCell (T := fun k => k = X) (p := ⟨X, 1, none⟩) (Ext.setCell (T := fun k => k = X) (p := ⟨X, 0, none⟩) (Ext.refl _ W) rfl _) rfl _) rfl _
  refine ⟨h.ext.trans ⟨hE.os, hE.tape, hE.output, hE.size, fun k hk hT => hE.block k hk (fun e => hT (.inr e))⟩, ?_, by rw [k3]; rfl, hat, h.ne, h.xw⟩
  obtain ⟨B, m, d, r1, r2, r3⟩ := h.rdr
  have hne := h.ne
  exact ⟨B, m, d, (hE.block R (Array.getElem?_eq_some_iff.1 r1).1 (by omega)).trans r1, r2.keepT (T := fun k => k = X) (fun ad e hn hT => by have := r3 ad e hn; omega) hE.size (fun k hk hT => hE.block k hk hT), r3⟩
theorem FrI.own (h : FrI w R X A n c l2 e2 at' e W) {g : Nat} (hg : W.grownBy W' (some g)) (hgw : w.heap.size ≤ g) : FrI w R X A n c l2 e2 at' e W' := by
  have hne := h.ne
  have hxw := h.xw
  refine ⟨⟨hg.os.trans h.ext.os, hg.tape.trans h.ext.tape, hg.output.trans h.ext.output, Nat.le_trans h.ext.size hg.size, fun k hk hT => (hg.block k (Nat.lt_of_lt_of_le hk h.ext.size) (by simp; omega)).trans (h.ext.block k hk hT)⟩, ?_, (hg.block X h.lt (by simp; omega)).trans h.x, h.le, hne, hxw⟩
  obtain ⟨B, m, d, r1, r2, r3⟩ := h.rdr
  exact ⟨B, m, d, (hg.block R (Array.getElem?_eq_some_iff.1 r1).1 (by simp; omega)).trans r1, r2.keepT (T := fun k => k = g) (fun ad e hn hT => by have := r3 ad e hn; omega) hg.size (fun k hk hT => hg.block k hk (by simp; omega)), r3⟩
theorem FrI.eqs {l3 : List UInt8} {e3 : Nat} (h : FrI w R X A n c l2 e2 at' e W) (hl : l2 = l3) (he : e2 = e3) : FrI w R X A n c l3 e3 at' e W := by subst hl he; exact h
theorem FrI.cell (h : FrI w R X A n c l2 e2 at' e W) {p : Addr} (hp : p.block < R) : W.cell? p = w.cell? p :=
  World.cell?_of_block (h.ext.block _ (by have := h.ne; have := h.xw; omega) (by have := h.ne; omega))
end

set_option maxRecDepth 1000000 in
set_option maxHeartbeats 4000000 in
theorem framereads_any (L : List UInt8) (A : Option Addr) (n c : Nat) (ops : List (Nat × Int)) (Al : Option Addr) (nl cl : Nat) (w : World) (hb : Bs w A n c L) (ho : Rd w 2 Al nl cl (opv ops))
    (hk : ∀ o ∈ ops, o.1 < 256 ∧ -9223372036854775808 ≤ o.2 ∧ o.2 ≤ 9223372036854775807) :
    Calls Try.prog 9 #[.slice A n c, .slice Al nl cl] w fun e w' => e = .returned (.bool true) ∧ Below w.heap.size w w' := by
  have hwk := frwakes_any w
  go_enter Try.func9, Try.ntmps9
  go_wp2_with fail
  refine hwk.mono ?_
  rintro e w1 ⟨rfl, hB1⟩
  clear hwk
  by_cases h1 : 300 < n
  · have hd : decide ((300 : Int) < (n : Int)) = true := by simp; omega
    go_wp2
    go_ret
    exact ⟨rfl, hB1⟩
  · have hd : decide ((300 : Int) < (n : Int)) = false := by simp; omega
    by_cases h2 : 60 < nl
    · have hd2 : decide ((60 : Int) < (nl : Int)) = true := by simp; omega
      go_wp2
      go_ret
      exact ⟨rfl, hB1⟩
    · have hd2 : decide ((60 : Int) < (nl : Int)) = false := by simp; omega
      have hb1 := hb.below hB1
      have ho1 := ho.below hB1
      go_wp2_with fail
      refine (frnew_any L A n c w1 hb1 (by omega)).mono ?_
      rintro e w2 ⟨R, rfl, hR1, hR2, hr2, hB2⟩
      go_wp2_with fail
      have hX : w2.heap.size = w2.heap.size := rfl
      have hB12 := hB1.trans (hB2.mono hB1.size)
      have hr3 := hr2.below ((Below.refl _ w2).alloc (Nat.le_refl _) (.cells #[.slice A n c, .int .i64 0, .int .i64 0] 52))
      have hx3 := heap_alloc_new w2 (.cells #[.slice A n c, .int .i64 0, .int .i64 0] 52)
      have hB13 := hB12.alloc hB12.size (.cells #[.slice A n c, .int .i64 0, .int .i64 0] 52)
      have hs3 : w2.heap.size < (w2.alloc (.cells #[.slice A n c, .int .i64 0, .int .i64 0] 52)).heap.size := by simp
      have hwR : w.heap.size ≤ R := Nat.le_trans hB1.size hR1
      have hbl := hb.lt'
      generalize w2.alloc (.cells #[.slice A n c, .int .i64 0, .int .i64 0] 52) = W0 at *
      generalize w2.heap.size = X at *
      have hI0 : FrI W0 R X A n c (L.drop 0) 0 0 0 W0 := ⟨Ext.refl _ _, by rw [List.drop_zero]; exact hr3, by simpa using hx3, by omega, hR2, hs3⟩
      have hbW := hb.below hB13
      have hoW := ho.below hB13
      have hB0 := Lib.hid hB13
      have hol : ∀ ad, Al = some ad → 0 < nl → ad.block < w.heap.size := fun ad e hn => by
        obtain ⟨ad', e', h1, _⟩ := ho.2.2.2 hn
        rw [e] at e'; cases e'; exact h1
      clear hr3 hx3 hB12 hb1 ho1 hB1 hB2 hX hr2 hB13
      go_loopw [36] (fun iv wr => ∃ k at' e : Nat, iv = .int .i64 k ∧ k ≤ nl ∧ Hid (FrI W0 R X A n c (L.drop at') e at' e wr)) (fun iv _ => nl - (intOf iv).toNat)
      case atStart => exact ⟨0, 0, 0, rfl, by omega, hI0⟩
      case round =>
        obtain ⟨k, at', e, rfl, hkn, HI⟩ := hrel
        clear hI0
        by_cases hlt : k < nl
        · have hdk : decide (k < nl) = true := decide_eq_true hlt
          have hkl : k < ops.length := by have h1 := ho.1; rw [opv_length] at h1; omega
          obtain ⟨al, rfl⟩ := ho.addr (by omega)
          have halR : al.block < R := Nat.lt_of_lt_of_le (hol al rfl (by omega)) hwR
          have hokk := HI.out
          obtain ⟨hc1, hc2⟩ := opv_get hkl
          have hkk := hk _ (List.getElem_mem hkl)
          obtain ⟨⟨kd, kn⟩, hop⟩ : ∃ o, o = ops[k] := ⟨_, rfl⟩
          rw [← hop] at hc1 hc2 hkk
          have hca0 : wr.cell? (al.add (k * 2)) = some (.int .u8 (kd : Int)) := (hokk.cell (by rw [block_of_add]; exact halR)).trans (hoW.cell hc1)
          have hcb0 : wr.cell? (al.add (k * 2 + 1)) = some (.int .i64 kn) := (hokk.cell (by rw [block_of_add]; exact halR)).trans (hoW.cell hc2)
          have hcb3 : wr.cell? ⟨(al.add (k * 2)).block, (al.add (k * 2)).off + 1, none⟩ = some (.int .i64 kn) := by rw [← add_of_add] at hcb0; exact hcb0
          have hcb4 : wr.cell? ((al.add (k * 2)).add 1) = some (.int .i64 kn) := hcb3
          simp only at hkk
          obtain ⟨km, hkm⟩ : ∃ m, m = kd % 6 := ⟨_, rfl⟩
          have hkm6 : km < 6 := by omega
          have t1 : (kd : Int).tmod 6 = (km : Int) := by rw [Int.tmod_eq_emod_of_nonneg (by omega), hkm]; rfl
          have t2 : (kd : Int) % 6 = (km : Int) := by rw [hkm]; rfl
          have hkd := hkk.1
          have hkn2 := hkk.2
          have HKM := Lib.hid hkm
          clear hc1 hc2 hop hokk hcb0 hkk hkm
          go_upto_block 2 with fail
          go_cut [42] (fun _ wx => Hid (∃ at2 e2, FrI W0 R X A n c (L.drop at2) e2 at2 e2 wx))
          case first =>
            have hI1 := HI.out.alloc (.cells #[.int .u8 (kd : Int), .int .i64 kn] 54)
            have ho1 : (wr.alloc (.cells #[.int .u8 (kd : Int), .int .i64 kn] 54)).cell? ⟨wr.heap.size, 1, none⟩ = some (.int .i64 kn) := by
              rw [cell_of_row _ _ _ _ _ _ (heap_alloc_new wr _)]; rfl
            have hol1 : wr.heap.size < (wr.alloc (.cells #[.int .u8 (kd : Int), .int .i64 kn] 54)).heap.size := by simp
            have hobX : X < wr.heap.size := HI.out.lt
            clear hca0 hcb3 hcb4 HI t1 t2
            generalize wr.alloc (.cells #[.int .u8 (kd : Int), .int .i64 kn] 54) = W1 at *
            generalize wr.heap.size = ob at *
            have hx0 := hI1.x0
            have hx1 := hI1.x1
            have hx2 := hI1.x2
            have hbs := hI1.other hbW (fun ad e hn => Nat.lt_of_lt_of_le (hbl ad e hn) hwR)
            have hll : (L.drop at').length ≤ 1000000 := by have := hb.len; rw [List.length_drop]; omega
            have h6 : km = 0 ∨ km = 1 ∨ km = 2 ∨ km = 3 ∨ km = 4 ∨ km = 5 := by omega
            rcases h6 with rfl | rfl | rfl | rfl | rfl | rfl
            · go_wp2_with fail
              refine (frreftake_any L A n c at' e 1 W1 hbs hI1.le).mono ?_
              rintro r w2 ⟨at2, A2, n2, c2, N, rfl, hat2, hdr, hb2, hA2, hB2⟩
              have hone : (Fr.takeS (L.drop at') e 1).2.2.length ≤ 1 := by
                unfold Fr.takeS; split
                · simp
                · split
                  · simp
                  · simp; omega
              have hfl := Fr.takeS_len (L.drop at') e 1
              have hby := fun W h => frbyte_any R (L.drop at') e W h hll
              generalize Fr.takeS (L.drop at') e 1 = f at *
              obtain ⟨f1, f2, f3⟩ := f
              simp only at hdr hb2 hone hby hfl
              have hAR : ∀ ad, A2 = some ad → 0 < n2 → ad.block < R := fun ad e hn => by
                obtain ⟨ad0, hA0, hblk⟩ := hA2 ad e hn
                have h1 := hb2.len
                have h2 := hb.len
                rw [List.length_drop] at hfl
                rw [hblk]
                exact Nat.lt_of_lt_of_le (hbl ad0 hA0 (by omega)) hwR
              have hI2 := (hI1.below hB2).alloc (.cells #[.slice A n c, .int .i64 at2, .int .i64 f2, .int .u64 N, .slice A2 n2 c2] 57)
              have hg2 : (w2.alloc (.cells #[.slice A n c, .int .i64 at2, .int .i64 f2, .int .u64 N, .slice A2 n2 c2] 57)).heap[w2.heap.size]? = _ := heap_alloc_new w2 _
              have hgl : w2.heap.size < (w2.alloc (.cells #[.slice A n c, .int .i64 at2, .int .i64 f2, .int .u64 N, .slice A2 n2 c2] 57)).heap.size := by simp
              have hb3 := (hb2.below hB2).alloc (.cells #[.slice A n c, .int .i64 at2, .int .i64 f2, .int .u64 N, .slice A2 n2 c2] 57)
              have hgX : X < w2.heap.size := (hI1.below hB2).lt
              unfold gotv
              clear hx0 hx1 hx2
              go_wp2_with fail
              generalize w2.alloc (.cells #[.slice A n c, .int .i64 at2, .int .i64 f2, .int .u64 N, .slice A2 n2 c2] 57) = W2 at *
              generalize w2.heap.size = g at *
              refine (hby W2 hI2.rdr).mono ?_
              rintro r w3 ⟨rfl, hr3, hg3⟩
              have hI3 := hI2.read hr3 hg3
              have hg4 := (hg3.block g hgl (by have := hI2.ne; simp; omega)).trans hg2
              have y0 : w3.cell? ⟨g, 0, none⟩ = some (.slice A n c) := by rw [cell_of_row _ _ _ _ _ _ hg4]; rfl
              have y1 : w3.cell? ⟨g, 1, none⟩ = some (.int .i64 at2) := by rw [cell_of_row _ _ _ _ _ _ hg4]; rfl
              have y2 : w3.cell? ⟨g, 2, none⟩ = some (.int .i64 f2) := by rw [cell_of_row _ _ _ _ _ _ hg4]; rfl
              have y4 : w3.cell? ⟨g, 4, none⟩ = some (.slice A2 n2 c2) := by rw [cell_of_row _ _ _ _ _ _ hg4]; rfl
              have z0 := hI3.x0
              have z1 := hI3.x1
              have z2 := hI3.x2
              have v0 := hI3.xf 0
              have v1 := hI3.xf 1
              have v2 := hI3.xf 2
              have hln := hb3.len
              have HJ := Lib.hid (And.intro hI3 hdr)
              by_cases hn2 : n2 = 0
              · obtain rfl : f3 = [] := List.eq_nil_of_length_eq_zero (by omega)
                subst hn2
                clear hg2 hg3 hr3 hI2 hI1 hg4 hb2 hb3 hdr hI3 hln hB2 hone hby hA2 hAR hfl
                go_wp2_with fail
                go_meet
                exact ⟨at2, f2, (HJ.out.1.setX at2 f2 hat2).eqs HJ.out.2.symm rfl⟩
              · obtain rfl : n2 = 1 := by omega
                obtain ⟨b, rfl⟩ : ∃ b, f3 = [b] := by
                  match f3, hln, hone with
                  | [], h1, _ => simp at h1
                  | [b], _, _ => exact ⟨b, rfl⟩
                  | _ :: _ :: _, _, h2 => simp at h2
                obtain ⟨ad2, rfl⟩ := hb3.addr (by omega)
                have hbA := hb3.cell (k := 0) (by simp)
                have had : ad2.block < R := hAR ad2 rfl (by omega)
                have hc0 : w3.cell? (ad2.add 0) = some (.int .u8 (b.toNat : Int)) := by
                  rw [World.cell?_of_block (hg3.block _ (by rw [block_of_add]; have := hI2.ne; omega) (by rw [block_of_add]; simp; omega))]
                  exact hbA
                have hc1 : w3.cell? ad2 = some (.int .u8 (b.toNat : Int)) := by rw [← hc0]; congr 1
                clear hg2 hg3 hr3 hI2 hI1 hg4 hb2 hb3 hdr hI3 hln hB2 hone hby hA2 hAR hfl
                go_wp2_with fail
                go_meet
                exact ⟨at2, f2, (HJ.out.1.setX at2 f2 hat2).eqs HJ.out.2.symm rfl⟩
            · have hrd := fun W h => frnumbers_any R (L.drop at') e W h
              go_wp2_with fail
              refine (frrefnumber_any L A n c at' e W1 hbs hI1.le).mono ?_
              rintro r w2 ⟨at2, rfl, hat2, hdr, hB2⟩
              generalize Fr.numS (L.drop at') e = f at *
              obtain ⟨f1, f2, f3⟩ := f
              simp only at hdr hrd
              have hI2 := (hI1.below hB2).alloc (.cells #[.slice A n c, .int .i64 at2, .int .i64 f2, .int .u64 f3, .slice none 0 0] 57)
              have hg2 : (w2.alloc (.cells #[.slice A n c, .int .i64 at2, .int .i64 f2, .int .u64 f3, .slice none 0 0] 57)).heap[w2.heap.size]? = _ := heap_alloc_new w2 _
              have hgl : w2.heap.size < (w2.alloc (.cells #[.slice A n c, .int .i64 at2, .int .i64 f2, .int .u64 f3, .slice none 0 0] 57)).heap.size := by simp
              have hgX : X < w2.heap.size := (hI1.below hB2).lt
              unfold gotv
              clear hx0 hx1 hx2
              go_wp2_with fail
              generalize w2.alloc (.cells #[.slice A n c, .int .i64 at2, .int .i64 f2, .int .u64 f3, .slice none 0 0] 57) = W2 at *
              generalize w2.heap.size = g at *
              have y3 : W2.cell? ⟨g, 3, none⟩ = some (.int .u64 f3) := by rw [cell_of_row _ _ _ _ _ _ hg2]; rfl
              have hgR : g ≠ R := by have := hI2.ne; omega
              go_region_held3 (fun w' => w'.cell? ⟨g, 3, none⟩ = some (.int .u64 f3)) (go_keep)
                ((go_at_call 31; refine (hrd _ (by first | exact hI2.rdr | exact (hI2.drewN 1).rdr)).mono ?_; rintro r w3 ⟨rfl, hr3, hg3⟩; have y5 : w3.cell? ⟨g, 3, none⟩ = some (.int .u64 f3) := (World.cell?_of_block (hg3.block _ hgl (by simp; omega))).trans y3))
              all_goals
                have hg3' : W2.grownBy w3 (some R) := ⟨hg3.os, hg3.tape, hg3.output, hg3.size, hg3.block⟩
                have hI3 := hI2.read hr3 hg3'
                have hg4 := (hg3'.block g hgl (by simp; omega)).trans hg2
                have y0 : w3.cell? ⟨g, 0, none⟩ = some (.slice A n c) := by rw [cell_of_row _ _ _ _ _ _ hg4]; rfl
                have y1 : w3.cell? ⟨g, 1, none⟩ = some (.int .i64 at2) := by rw [cell_of_row _ _ _ _ _ _ hg4]; rfl
                have y2 : w3.cell? ⟨g, 2, none⟩ = some (.int .i64 f2) := by rw [cell_of_row _ _ _ _ _ _ hg4]; rfl
                have z0 := hI3.x0
                have z1 := hI3.x1
                have z2 := hI3.x2
                have v0 := hI3.xf 0
                have v1 := hI3.xf 1
                have v2 := hI3.xf 2
                have HJ := Lib.hid (And.intro hI3 hdr)
                clear hg2 hg3 hg3' hr3 hI2 hI1 hg4 hdr hI3 hB2 hrd
                go_wp2_with fail
                go_meet
                exact ⟨at2, f2, (HJ.out.1.setX at2 f2 hat2).eqs HJ.out.2.symm rfl⟩
            · -- Take
              go_wp2_with fail
              refine (frreftake_any L A n c at' e kn W1 hbs hI1.le).mono ?_
              rintro r w2 ⟨at2, A2, n2, c2, N, rfl, hat2, hdr, hb2, hA2, hB2⟩
              have hfl := Fr.takeS_len (L.drop at') e kn
              have hrd := fun W h => frtakes_any R (L.drop at') e kn W h hll hkn2
              generalize Fr.takeS (L.drop at') e kn = f at *
              obtain ⟨f1, f2, f3⟩ := f
              simp only at hdr hb2 hfl hrd
              have hAR : ∀ ad, A2 = some ad → 0 < n2 → ad.block < R := fun ad e hn => by
                obtain ⟨ad0, hA0, hblk⟩ := hA2 ad e hn
                have h1 := hb2.len
                have h2 := hb.len
                rw [List.length_drop] at hfl
                rw [hblk]
                exact Nat.lt_of_lt_of_le (hbl ad0 hA0 (by omega)) hwR
              have hI2 := (hI1.below hB2).alloc (.cells #[.slice A n c, .int .i64 at2, .int .i64 f2, .int .u64 N, .slice A2 n2 c2] 57)
              have hg2 : (w2.alloc (.cells #[.slice A n c, .int .i64 at2, .int .i64 f2, .int .u64 N, .slice A2 n2 c2] 57)).heap[w2.heap.size]? = _ := heap_alloc_new w2 _
              have hgl : w2.heap.size < (w2.alloc (.cells #[.slice A n c, .int .i64 at2, .int .i64 f2, .int .u64 N, .slice A2 n2 c2] 57)).heap.size := by simp
              have hb3 := (hb2.below hB2).alloc (.cells #[.slice A n c, .int .i64 at2, .int .i64 f2, .int .u64 N, .slice A2 n2 c2] 57)
              have hgX : X < w2.heap.size := (hI1.below hB2).lt
              have ho2 : (w2.alloc (.cells #[.slice A n c, .int .i64 at2, .int .i64 f2, .int .u64 N, .slice A2 n2 c2] 57)).cell? ⟨ob, 1, none⟩ = some (.int .i64 kn) :=
                (((Below.refl _ W1).trans hB2).alloc hB2.size _).cell (p := ⟨ob, 1, none⟩) hol1 |>.trans ho1
              have hol2 : ob < (w2.alloc (.cells #[.slice A n c, .int .i64 at2, .int .i64 f2, .int .u64 N, .slice A2 n2 c2] 57)).heap.size := by have := hB2.size; simp; omega
              unfold gotv
              clear hx0 hx1 hx2 ho1 hol1
              go_wp2_with fail
              generalize w2.alloc (.cells #[.slice A n c, .int .i64 at2, .int .i64 f2, .int .u64 N, .slice A2 n2 c2] 57) = W2 at *
              generalize w2.heap.size = g at *
              have y4 : W2.cell? ⟨g, 4, none⟩ = some (.slice A2 n2 c2) := by rw [cell_of_row _ _ _ _ _ _ hg2]; rfl
              have hgR : g ≠ R := by have := hI2.ne; omega
              have hobR : ob ≠ R := by have := hI2.ne; omega
              have hdt : decide (f3 = f3) = true := decide_eq_true rfl
              refine (hrd _ hI2.rdr).mono ?_
              rintro r w3 ⟨A3, n3, c3, rfl, hown3, hr3, hg3'⟩
              have y5 : w3.cell? ⟨g, 4, none⟩ = some (.slice A2 n2 c2) := (World.cell?_of_block (hg3'.block _ hgl (by simp; omega))).trans y4
              have hbA : Bs w3 A2 n2 c2 f3 := hb3.keepT (T := fun k => k = R) (fun ad e hn hT => by have := hAR ad e hn; omega) hg3'.size (fun k hk hT => hg3'.block k hk (by simp; omega))
              have hbB := own_bs hown3
              go_wp2_with fail
              refine (same_any f3 f3 A3 A2 n3 c3 n2 c2 _ hbB hbA).mono ?_
              rintro r w4 ⟨rfl, q4, rfl⟩
              have hI3 := (hI2.read hr3 hg3').drewN q4
              have hg4 : (w3.drewN q4).heap[g]? = _ := (hg3'.block g hgl (by simp; omega)).trans hg2
              have hown4 : (w3.drewN q4).ownsRow W2.heap.size 5 1 (.slice A3 n3 c3) n3 (bval f3) := hown3
              have hn3 := hbB.len
              have hn3m := hbB.max
              have hbyte : ∀ j, j < n3 → ∃ b : Nat, b < 256 ∧ (bval f3)[j]? = some (.int .u8 b) := fun j hj => ⟨_, (f3[j]'(by omega)).toNat_lt, bval_get (by omega)⟩
              have hgw : g < W2.heap.size := hgl
              have hI2W : W0.heap.size ≤ W2.heap.size := hI2.ext.size
              have HH := Lib.hid (And.intro hI3 (And.intro hg4 (And.intro hown4 hbyte)))
              clear hg2 hg3' hr3 hI2 hI1 hg4 hI3 hB2 hrd hb2 hb3 hA2 hAR hfl hown3 hown4 hbA hbB hbyte hn3 y5 y4 ho2 hol2 hgl
              go_wp2_with fail
              go_loopw [116] (fun iv W => ∃ m : Nat, iv = .int .i64 m ∧ m ≤ n3 ∧ Hid (∃ ys, FrI W0 R X A n c f1 f2 at' e W ∧ W.heap[g]? = some (.cells #[.slice A n c, .int .i64 at2, .int .i64 f2, .int .u64 N, .slice A2 n2 c2] 57 (0, 0)) ∧ W.ownsRow W2.heap.size 5 1 (.slice A3 n3 c3) n3 ys ∧ ∀ j, j < n3 → ∃ b : Nat, b < 256 ∧ ys[j]? = some (.int .u8 b))) (fun iv _ => n3 - (intOf iv).toNat)
              case atStart => exact ⟨0, rfl, by omega, bval f3, HH.out.1, HH.out.2.1, HH.out.2.2.1, HH.out.2.2.2⟩
              case round =>
                obtain ⟨m, rfl, hm, HS⟩ := hrel
                clear HH
                by_cases hmn : m < n3
                · have dm : decide (m < n3) = true := decide_eq_true hmn
                  obtain ⟨ys, hJ, hJg, hJo, hJb⟩ := HS.out
                  obtain ⟨z, hz, hyz⟩ := hJb m hmn
                  obtain ⟨g3, hA3, hg3w⟩ : ∃ g3, A3 = some ⟨g3, 0, none⟩ ∧ W2.heap.size ≤ g3 := by
                    rcases hJo.2 with ⟨_, h0⟩ | ⟨g3, cap, cur, hv, hb3, _⟩
                    · omega
                    · injection hv with h1 _ _; exact ⟨g3, h1, hb3⟩
                  subst hA3
                  have hcm : wr.cell? ⟨g3, m, none⟩ = some (.int .u8 (z : Int)) := (hJo.cellAt m (by omega)).trans hyz
                  have hfm : wr.frozen? ⟨g3, m, none⟩ = false := hJo.frozenAt m
                  have hadd : (⟨g3, 0, none⟩ : Addr).add m = ⟨g3, m, none⟩ := addr_head g3 m
                  have hcm2 : wr.cell? ((⟨g3, 0, none⟩ : Addr).add m) = some (.int .u8 (z : Int)) := by rw [hadd]; exact hcm
                  have hfm2 : wr.frozen? ((⟨g3, 0, none⟩ : Addr).add m) = false := by rw [hadd]; exact hfm
                  obtain ⟨z2, hz2⟩ : ∃ z2, z2 = (z + 1) % 256 := ⟨_, rfl⟩
                  have hwz : IntKind.u8.wrap ((z : Int) + 1) = (z2 : Int) := by
                    by_cases hz5 : z = 255
                    · subst hz5; rw [hz2]; decide
                    · rw [IntWalk.u8_in _ (by omega), hz2]; omega
                  have hz2b : z2 < 256 := by omega
                  obtain ⟨hst, hgst⟩ := hJo.stored m (.int .u8 (z2 : Int))
                  have HN : Hid (∃ ys, FrI W0 R X A n c f1 f2 at' e (wr.setCell ⟨g3, m, none⟩ (.int .u8 (z2 : Int))) ∧ (wr.setCell ⟨g3, m, none⟩ (.int .u8 (z2 : Int))).heap[g]? = some (.cells #[.slice A n c, .int .i64 at2, .int .i64 f2, .int .u64 N, .slice A2 n2 c2] 57 (0, 0)) ∧ (wr.setCell ⟨g3, m, none⟩ (.int .u8 (z2 : Int))).ownsRow W2.heap.size 5 1 (.slice (some ⟨g3, 0, none⟩) n3 c3) n3 ys ∧ ∀ j, j < n3 → ∃ b : Nat, b < 256 ∧ ys[j]? = some (.int .u8 b)) := by
                    refine ⟨ys.set m (.int .u8 (z2 : Int)), hJ.own hgst (Nat.le_trans hI2W hg3w), (hgst.block g (by have := hJ.lt; have := hgw; exact (Array.getElem?_eq_some_iff.1 hJg).1) (by simp; omega)).trans hJg, hst, fun j hj => ?_⟩
                    by_cases hjm : j = m
                    · subst hjm
                      refine ⟨z2, hz2b, ?_⟩
                      rw [List.getElem?_set_self]
                      have := hJo.1; omega
                    · obtain ⟨b, hb1, hb2⟩ := hJb j hj
                      exact ⟨b, hb1, by rw [List.getElem?_set_ne (by omega)]; exact hb2⟩
                  have i0 : (0 : Int) ≤ (m : Int) := by omega
                  have i1 : (m : Int) < (n3 : Int) := by omega
                  have i2 : IntKind.i64.wrap ((m : Int) + 1) = (m : Int) + 1 := IntWalk.i64_in _ (by omega)
                  clear HS hJ hJg hJo hJb hyz hz2 hst hgst hadd
                  go_wp2
                  go_roundw
                  case rel => exact ⟨m + 1, by simp, by omega, HN.out⟩
                  case measure => simp [intOf]; omega
                · obtain rfl : m = n3 := by omega
                  obtain ⟨ys, hJ, hJg, hJo, hJb⟩ := HS.out
                  have y0 : wr.cell? ⟨g, 0, none⟩ = some (.slice A n c) := by rw [cell_of_row _ _ _ _ _ _ hJg]; rfl
                  have y1 : wr.cell? ⟨g, 1, none⟩ = some (.int .i64 at2) := by rw [cell_of_row _ _ _ _ _ _ hJg]; rfl
                  have y2 : wr.cell? ⟨g, 2, none⟩ = some (.int .i64 f2) := by rw [cell_of_row _ _ _ _ _ _ hJg]; rfl
                  have z0 := hJ.x0
                  have z1 := hJ.x1
                  have z2 := hJ.x2
                  have v0 := hJ.xf 0
                  have v1 := hJ.xf 1
                  have v2 := hJ.xf 2
                  have HJ := Lib.hid (And.intro hJ hdr)
                  clear hJ hJg hJo hJb hdr HS
                  go_wp2_with fail
                  go_meet
                  exact ⟨at2, f2, (HJ.out.1.setX at2 f2 hat2).eqs HJ.out.2.symm rfl⟩
            · -- Frame
              go_wp2_with fail
              refine (frrefframes_any L A n c at' e kn.toNat kn W1 hbs hI1.le (by omega) rfl hkn2.2).mono ?_
              rintro r w2 ⟨at2, A2, n2, c2, N, rfl, hat2, hdr, hb2, hA2, hB2⟩
              have hfl := Fr.frameS_len (L.drop at') e kn.toNat
              have hrd := fun W h => frframes_any R kn.toNat kn (L.drop at') e W h hll rfl hkn2.2 hkn2.1
              generalize Fr.frameS (L.drop at') e kn.toNat = f at *
              obtain ⟨f1, f2, f3⟩ := f
              simp only at hdr hb2 hfl hrd
              have hAR : ∀ ad, A2 = some ad → 0 < n2 → ad.block < R := fun ad e hn => by
                obtain ⟨ad0, hA0, hblk⟩ := hA2 ad e hn
                have h1 := hb2.len
                have h2 := hb.len
                rw [List.length_drop] at hfl
                rw [hblk]
                exact Nat.lt_of_lt_of_le (hbl ad0 hA0 (by omega)) hwR
              have hI2 := (hI1.below hB2).alloc (.cells #[.slice A n c, .int .i64 at2, .int .i64 f2, .int .u64 N, .slice A2 n2 c2] 57)
              have hg2 : (w2.alloc (.cells #[.slice A n c, .int .i64 at2, .int .i64 f2, .int .u64 N, .slice A2 n2 c2] 57)).heap[w2.heap.size]? = _ := heap_alloc_new w2 _
              have hgl : w2.heap.size < (w2.alloc (.cells #[.slice A n c, .int .i64 at2, .int .i64 f2, .int .u64 N, .slice A2 n2 c2] 57)).heap.size := by simp
              have hb3 := (hb2.below hB2).alloc (.cells #[.slice A n c, .int .i64 at2, .int .i64 f2, .int .u64 N, .slice A2 n2 c2] 57)
              have hgX : X < w2.heap.size := (hI1.below hB2).lt
              have ho2 : (w2.alloc (.cells #[.slice A n c, .int .i64 at2, .int .i64 f2, .int .u64 N, .slice A2 n2 c2] 57)).cell? ⟨ob, 1, none⟩ = some (.int .i64 kn) :=
                (((Below.refl _ W1).trans hB2).alloc hB2.size _).cell (p := ⟨ob, 1, none⟩) hol1 |>.trans ho1
              have hol2 : ob < (w2.alloc (.cells #[.slice A n c, .int .i64 at2, .int .i64 f2, .int .u64 N, .slice A2 n2 c2] 57)).heap.size := by have := hB2.size; simp; omega
              unfold gotv
              clear hx0 hx1 hx2 ho1 hol1
              go_wp2_with fail
              generalize w2.alloc (.cells #[.slice A n c, .int .i64 at2, .int .i64 f2, .int .u64 N, .slice A2 n2 c2] 57) = W2 at *
              generalize w2.heap.size = g at *
              have y4 : W2.cell? ⟨g, 4, none⟩ = some (.slice A2 n2 c2) := by rw [cell_of_row _ _ _ _ _ _ hg2]; rfl
              have hgR : g ≠ R := by have := hI2.ne; omega
              have hobR : ob ≠ R := by have := hI2.ne; omega
              have hdt : decide (f3 = f3) = true := decide_eq_true rfl
              go_region_held3 (fun w' => w'.cell? ⟨g, 4, none⟩ = some (.slice A2 n2 c2) ∧ w'.cell? ⟨ob, 1, none⟩ = some (.int .i64 kn)) (go_keep)
                (first
                  | (go_at_call 34
                     refine (hrd _ (by first | exact hI2.rdr | exact (hI2.drewN 1).rdr)).mono ?_
                     rintro r w3 ⟨A3, n3, c3, rfl, hown3, hr3, hg3⟩
                     have hg3' : W2.grownBy w3 (some R) := ⟨hg3.os, hg3.tape, hg3.output, hg3.size, hg3.block⟩
                     have y5 : w3.cell? ⟨g, 4, none⟩ = some (.slice A2 n2 c2) := (World.cell?_of_block (hg3'.block _ hgl (by simp; omega))).trans y4
                     have y6 : w3.cell? ⟨ob, 1, none⟩ = some (.int .i64 kn) := (World.cell?_of_block (hg3'.block _ hol2 (by simp; omega))).trans ho2
                     have hbA : Bs w3 A2 n2 c2 f3 := hb3.keepT (T := fun k => k = R) (fun ad e hn hT => by have := hAR ad e hn; omega) hg3'.size (fun k hk hT => hg3'.block k hk (by simp; omega))
                     have hbB := own_bs hown3)
                  | (go_at_call 23
                     refine (same_any f3 f3 A3 A2 n3 c3 n2 c2 _ (by first | exact hbB | exact hbB.drewN _) (by first | exact hbA | exact hbA.drewN _)).mono ?_
                     rintro r w4 ⟨rfl, q4, rfl⟩))
              all_goals
                have hI3 := (hI2.read hr3 hg3').drewN q4
                have hg4 := (hg3'.block g hgl (by simp; omega)).trans hg2
                have y0 : (w3.drewN q4).cell? ⟨g, 0, none⟩ = some (.slice A n c) := (show w3.cell? ⟨g, 0, none⟩ = some (.slice A n c) from by rw [cell_of_row _ _ _ _ _ _ hg4]; rfl)
                have y1 : (w3.drewN q4).cell? ⟨g, 1, none⟩ = some (.int .i64 at2) := (show w3.cell? ⟨g, 1, none⟩ = some (.int .i64 at2) from by rw [cell_of_row _ _ _ _ _ _ hg4]; rfl)
                have y2 : (w3.drewN q4).cell? ⟨g, 2, none⟩ = some (.int .i64 f2) := (show w3.cell? ⟨g, 2, none⟩ = some (.int .i64 f2) from by rw [cell_of_row _ _ _ _ _ _ hg4]; rfl)
                have z0 := hI3.x0
                have z1 := hI3.x1
                have z2 := hI3.x2
                have v0 := hI3.xf 0
                have v1 := hI3.xf 1
                have v2 := hI3.xf 2
                have HJ := Lib.hid (And.intro hI3 hdr)
                clear hg2 hg3 hg3' hr3 hI2 hI1 hg4 hdr hI3 hB2 hrd hb2 hb3 hA2 hAR hfl hown3 hbA hbB
                go_wp2_with fail
                go_meet
                exact ⟨at2, f2, (HJ.out.1.setX at2 f2 hat2).eqs HJ.out.2.symm rfl⟩
            · -- Text
              go_wp2_with fail
              refine (frrefframes_any L A n c at' e 1048576 1048576 W1 hbs hI1.le (by omega) rfl (by decide)).mono ?_
              rintro r w2 ⟨at2, A2, n2, c2, N, rfl, hat2, hdr, hb2, hA2, hB2⟩
              have hfl := Fr.frameS_len (L.drop at') e 1048576
              have hrd := fun W h => frtext_any R (L.drop at') e W h hll
              generalize Fr.frameS (L.drop at') e 1048576 = f at *
              obtain ⟨f1, f2, f3⟩ := f
              simp only at hdr hb2 hfl hrd
              have hAR : ∀ ad, A2 = some ad → 0 < n2 → ad.block < R := fun ad e hn => by
                obtain ⟨ad0, hA0, hblk⟩ := hA2 ad e hn
                have h1 := hb2.len
                have h2 := hb.len
                rw [List.length_drop] at hfl
                rw [hblk]
                exact Nat.lt_of_lt_of_le (hbl ad0 hA0 (by omega)) hwR
              have hI2 := (hI1.below hB2).alloc (.cells #[.slice A n c, .int .i64 at2, .int .i64 f2, .int .u64 N, .slice A2 n2 c2] 57)
              have hg2 : (w2.alloc (.cells #[.slice A n c, .int .i64 at2, .int .i64 f2, .int .u64 N, .slice A2 n2 c2] 57)).heap[w2.heap.size]? = _ := heap_alloc_new w2 _
              have hgl : w2.heap.size < (w2.alloc (.cells #[.slice A n c, .int .i64 at2, .int .i64 f2, .int .u64 N, .slice A2 n2 c2] 57)).heap.size := by simp
              have hb3 := (hb2.below hB2).alloc (.cells #[.slice A n c, .int .i64 at2, .int .i64 f2, .int .u64 N, .slice A2 n2 c2] 57)
              have hgX : X < w2.heap.size := (hI1.below hB2).lt
              have ho2 : (w2.alloc (.cells #[.slice A n c, .int .i64 at2, .int .i64 f2, .int .u64 N, .slice A2 n2 c2] 57)).cell? ⟨ob, 1, none⟩ = some (.int .i64 kn) :=
                (((Below.refl _ W1).trans hB2).alloc hB2.size _).cell (p := ⟨ob, 1, none⟩) hol1 |>.trans ho1
              have hol2 : ob < (w2.alloc (.cells #[.slice A n c, .int .i64 at2, .int .i64 f2, .int .u64 N, .slice A2 n2 c2] 57)).heap.size := by have := hB2.size; simp; omega
              unfold gotv
              clear hx0 hx1 hx2 ho1 hol1
              go_wp2_with fail
              generalize w2.alloc (.cells #[.slice A n c, .int .i64 at2, .int .i64 f2, .int .u64 N, .slice A2 n2 c2] 57) = W2 at *
              generalize w2.heap.size = g at *
              have y4 : W2.cell? ⟨g, 4, none⟩ = some (.slice A2 n2 c2) := by rw [cell_of_row _ _ _ _ _ _ hg2]; rfl
              have hgR : g ≠ R := by have := hI2.ne; omega
              have hobR : ob ≠ R := by have := hI2.ne; omega
              have hcvA : (convert 22 9 (.slice A2 n2 c2)).run Try.prog W2.drew = .ok (.string (str f3)) W2.drew := run_convert_bs (P := Try.prog) W2.drew 22 9 5 Try.underlying22 Try.underlying5 Try.underlying9 (hb3.drewN 1)
              go_region_held3 (fun w' => w'.cell? ⟨g, 4, none⟩ = some (.slice A2 n2 c2) ∧ (convert 22 9 (.slice A2 n2 c2)).run Try.prog w' = .ok (.string (str f3)) w') (first | go_keep | (exact ⟨by assumption, by assumption⟩))
                ((go_at_call 35
                  refine (hrd _ (by first | exact hI2.rdr | exact (hI2.drewN 1).rdr)).mono ?_
                  rintro r w3 ⟨rfl, hr3, hg3⟩
                  have hg3' : W2.grownBy w3 (some R) := ⟨hg3.os, hg3.tape, hg3.output, hg3.size, hg3.block⟩
                  have y5 : w3.cell? ⟨g, 4, none⟩ = some (.slice A2 n2 c2) := (World.cell?_of_block (hg3'.block _ hgl (by simp; omega))).trans y4
                  have hbA : Bs w3 A2 n2 c2 f3 := hb3.keepT (T := fun k => k = R) (fun ad e hn hT => by have := hAR ad e hn; omega) hg3'.size (fun k hk hT => hg3'.block k hk (by simp; omega))
                  have hcvB : (convert 22 9 (.slice A2 n2 c2)).run Try.prog w3 = .ok (.string (str f3)) w3 := run_convert_bs (P := Try.prog) w3 22 9 5 Try.underlying22 Try.underlying5 Try.underlying9 hbA))
              all_goals
                have hI3 := hI2.read hr3 hg3'
                have hg4 := (hg3'.block g hgl (by simp; omega)).trans hg2
                have y0 : w3.cell? ⟨g, 0, none⟩ = some (.slice A n c) := by rw [cell_of_row _ _ _ _ _ _ hg4]; rfl
                have y1 : w3.cell? ⟨g, 1, none⟩ = some (.int .i64 at2) := by rw [cell_of_row _ _ _ _ _ _ hg4]; rfl
                have y2 : w3.cell? ⟨g, 2, none⟩ = some (.int .i64 f2) := by rw [cell_of_row _ _ _ _ _ _ hg4]; rfl
                have z0 := hI3.x0
                have z1 := hI3.x1
                have z2 := hI3.x2
                have v0 := hI3.xf 0
                have v1 := hI3.xf 1
                have v2 := hI3.xf 2
                have HJ := Lib.hid (And.intro hI3 hdr)
                clear hg2 hg3 hg3' hr3 hI2 hI1 hg4 hdr hI3 hB2 hrd hb2 hb3 hA2 hAR hfl hbA
                go_wp2_with fail
                go_meet
                exact ⟨at2, f2, (HJ.out.1.setX at2 f2 hat2).eqs HJ.out.2.symm rfl⟩
            · have hend := frend_any R (L.drop at') e W1 hI1.rdr
              have hlm : (L.drop at').length = n - at' := by have := hb.len; rw [List.length_drop]; omega
              have hle := hI1.le
              have HJ := Lib.hid hI1
              clear hI1 hll
              by_cases he : e = 0
              · subst he
                by_cases hat : at' < n
                · rw [if_pos ⟨rfl, by omega⟩] at hend
                  have dd : decide (at' < n) = true := decide_eq_true hat
                  clear hlm
                  go_wp2_with fail
                  refine hend.mono ?_
                  rintro r w2 ⟨rfl, rfl⟩
                  go_wp2_with fail
                  go_meet
                  exact ⟨at', 0, HJ.out⟩
                · rw [if_neg (by omega)] at hend
                  have dd : decide (at' < n) = false := decide_eq_false hat
                  clear hlm
                  go_wp2_with fail
                  refine hend.mono ?_
                  rintro r w2 ⟨rfl, rfl⟩
                  go_wp2_with fail
                  go_meet
                  exact ⟨at', 0, HJ.out⟩
              · rw [if_neg (by omega)] at hend
                have dd : ((e : Int) == 0) = false := by rw [beq_eq_false_iff_ne]; omega
                clear hlm
                go_wp2_with fail
                refine hend.mono ?_
                rintro r w2 ⟨rfl, rfl⟩
                go_wp2_with fail
                go_meet
                exact ⟨at', e, HJ.out⟩
          case rest =>
            obtain ⟨at2, e2, hI⟩ := hcut.out
            have hcut2 := Lib.hid hI
            have hx1 := hI.x1
            have hx2 := hI.x2
            have hll : (L.drop at2).length = n - at2 := by have := hb.len; rw [List.length_drop]; omega
            have hle := hI.le
            have hleft := fun q => frleft_any R (L.drop at2) e2 (wc.drewN q) hI.rdr
            have herr := fun q => frerr_any R (L.drop at2) e2 (wc.drewN q) hI.rdr
            rw [hll] at hleft
            have hsub : IntKind.i64.wrap ((n : Int) - at2) = ((n - at2 : Nat) : Int) := by rw [IntWalk.i64_in _ (by omega)]; omega
            clear hcut hI hll
            go_wp2
            go_quiet ((first
              | (go_at_call 37; exact Calls.quiet_of_same ((hleft _).mono fun _ _ h => ⟨h.1, h.2.symm⟩))
              | (go_at_call 38; exact Calls.quiet_of_same ((herr _).mono fun _ _ h => ⟨h.1, h.2.symm⟩))))
            go_wp2
            go_roundw
            case rel => exact ⟨k + 1, at2, e2, by simp, by omega, hcut2.out.drewN _⟩
            case measure => simp [intOf]; omega
        · obtain rfl : k = nl := by omega
          have hext := HI.out.ext
          go_wp2
          go_ret
          refine ⟨rfl, hB0.out.trans ⟨hext.os, hext.tape, hext.output, hext.size, fun j hj => hext.block j (by have := hB0.out.size; omega) (by omega)⟩⟩
end Go.Proofs.Ytcoilgfjabnoeaa
