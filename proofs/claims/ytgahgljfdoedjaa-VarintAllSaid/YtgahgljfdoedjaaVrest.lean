/- tabulariumref04.All, varint.List, tabulariumlaw04.same. -/
import Derived.Test.YtgahgljfdoedjaaVtold
import Derived.Test.YtgahgljfdoedjaaVarh
import Derived.Deep.QuietTactic
namespace Go.Proofs.Ytgahgljfdoedjaa
open Go.RowKit

theorem Rd.new1At (w : World) (e : TypeId) (v : Value) (g : Nat) (hg : w.heap.size = g) : Rd (w.alloc (.cells #[v] e)) 1 (some ⟨g, 0, none⟩) 1 1 [v] := Rd.newAt w e [v] (by simp [maxLen]) g hg
theorem own_below {w w' : World} {base : Nat} {e : TypeId} {sz : Nat} {v : Value} {k : Nat} {xs : List Value} (h : w.ownsRow base e sz v k xs) (hb : Below w.heap.size w w') : w'.ownsRow base e sz v k xs :=
  h.kept (row := none) ⟨hb.os, hb.tape, hb.output, hb.size, fun q hq _ => hb.block q hq⟩ (by cases v.ownBlock <;> simp)
theorem below_more {B : Nat} {w w1 w2 : World} (h : Below B w w1) (h2 : Below w1.heap.size w1 w2) (o : Obj) (hB : B ≤ w1.heap.size := by first | assumption | (exact Below.size (by assumption))) : Below B w (w2.alloc o) :=
  (h.trans (h2.mono hB)).alloc (Nat.le_trans hB h2.size) o
theorem Bs.cut {w : World} {A : Option Addr} {n c k : Nat} {l : List UInt8} (h : Bs w A n c l) (hk : k ≤ n) : Bs w (if c = k then A else A.map (·.add k)) (n - k) (c - k) (l.drop k) := by
  have := Rd.cut h hk
  simp only [Nat.mul_one, bval_drop] at this
  exact this

set_option maxRecDepth 100000 in
set_option maxHeartbeats 1000000 in
theorem refall_any (l : List UInt8) (A : Option Addr) (n c : Nat) (w : World) (hb : Bs w A n c l) (hn : n ≤ 100000) :
    Calls Try.prog 17 #[.slice A n c] w (Owned w 22 (nval .u64 (Var.all l))) := by
  obtain ⟨i0, hi, hz0, hz1, hz2⟩ := info_parts infoU64
  have hnl := hb.len
  have HN := Lib.hid hnl
  have hnc := hb.2.1
  have hcm := Rd.maxc hb
  clear hnl
  go_enter Try.func17, Try.ntmps17
  go_wp2
  go_loopw [3, 4] (fun ov iv wr => ∃ (k : Nat) (pre : List Nat) (A' : Option Addr) (c' : Nat), k ≤ n ∧ iv = .int .i64 k ∧ ov = .slice A' pre.length c' ∧ pre.length ≤ k ∧ wr.ownsRow w.heap.size 22 1 (.slice A' pre.length c') pre.length (nval .u64 pre) ∧ Below w.heap.size w wr ∧ Hid (pre ++ Var.all (l.drop k) = Var.all l)) (fun _ iv _ => n - (intOf iv).toNat)
  case atStart => exact ⟨0, [], none, 0, Nat.zero_le _, rfl, rfl, Nat.le_refl _, World.ownsRow_nil _ _ _ _, Below.refl _ _, rfl⟩
  case round =>
    obtain ⟨k, pre, A', c', hk, rfl, rfl, hpk, hrow, hbel, HP⟩ := hrel
    have hbk := (hb.below hbel).cut hk
    obtain ⟨g, hg⟩ : ∃ g, g = Var.get (l.drop k) := ⟨_, rfl⟩
    obtain ⟨N, Sz, E⟩ := g
    have HG := Lib.hid hg
    clear hg
    have hcon := refget_any _ _ _ _ _ hbk
    rw [← HG.out] at hcon
    by_cases hE : E = 0
    · subst hE
      have hE0 : (Var.get (l.drop k)).2.2 = 0 := by rw [← HG.out]
      have hsz := Var.get_size hE0
      rw [← HG.out] at hsz
      simp only [List.length_drop] at hsz
      have hall := Var.all_ok hE0
      rw [← HG.out] at hall
      have hs1 : k + Sz ≤ n := by have := HN.out; omega
      have hs2 : 1 ≤ Sz := by omega
      have HALL := Lib.hid hall
      clear hall hsz hE0
      rw [if_neg (by omega)] at hcon
      go_wp2_with fail
      refine hcon.mono ?_
      rintro e w2 ⟨rfl, hb2⟩
      have hrow2 : w2.ownsRow w.heap.size 22 1 (.slice A' pre.length c') pre.length (nval .u64 pre) := hrow.kept (row := none) ⟨hb2.os, hb2.tape, hb2.output, hb2.size, fun q hq _ => hb2.block q hq⟩ (by cases (Value.slice A' pre.length c').ownBlock <;> simp)
      have hbel2 := hbel.trans (hb2.mono hbel.size)
      go_wp2_with (first
        | (at_builtin
           go_loud (refine wpList_append_rd _ rfl _ _ _ rfl w.heap.size 22 i0 _ 1 8 Try.underlying38 hi hz0 hz1 hz2 rfl (by omega) _ _ _ ((hrow2.alloc _).alloc _) rfl _ 1 1 _ (Rd.new1At _ _ _ _ (by simp)) rfl (by simp [Value.oneCell']) (by unfold maxLen; omega) (by omega) ((hbel2.alloc hbel2.size _).alloc (hbel2.alloc hbel2.size _).size _).size _ rfl _ rfl ?_)
           intro A3 c3 w3 hown3 hg3 hat3
           have hb3 := below_append ((hbel2.alloc hbel2.size _).alloc (hbel2.alloc hbel2.size _).size _) ((hrow2.alloc _).alloc _) hg3 (Nat.le_refl _) ((hbel2.alloc hbel2.size _).alloc (hbel2.alloc hbel2.size _).size _).size
           have hc3 : w3.cell? ⟨w2.heap.size, 1, none⟩ = some (.int .i64 Sz) := by
             rw [World.cell?_of_block (hg3.block w2.heap.size (by simp; omega) (fun e => by have := (hrow2.lt _ e.symm).2; omega))]
             rw [World.cell?_alloc_lt _ _ _ (by simp)]
             exact cell_of_row _ _ 1 _ _ _ (heap_alloc_new w2 _)))
      go_roundw
      case rel =>
        refine ⟨k + Sz, pre ++ [N], A3, c3, by omega, by go_num, by simp, by simp; omega, by rw [nval_snoc]; simpa using hown3, hb3, ?_⟩
        have h1 := HP.out
        rw [HALL.out, List.drop_drop] at h1
        unfold Hid
        simpa using h1
      case measure => simp [intOf]; omega
    · have hE1 : ((E : Int) != 0) = true := by rw [bne_iff_ne]; omega
      have hfin : pre = Var.all l := by
        have h1 := HP.out
        have h2 : (Var.get (l.drop k)).2.2 ≠ 0 := by rw [← HG.out]; exact hE
        rw [Var.all_no h2] at h1
        simpa using h1
      have HF := Lib.hid hfin
      clear hE hfin
      by_cases hck : c = k
      · obtain rfl : n = c := by omega
        obtain rfl : n = k := by omega
        rw [if_pos rfl, Nat.sub_self] at hcon
        go_wp2_with fail
        refine hcon.mono ?_
        rintro e w2 ⟨rfl, hb2⟩
        go_wp2
        go_ret
        refine ⟨A', _, c', rfl, ?_, below_more hbel hb2 _⟩
        rw [← HF.out]
        exact (own_below hrow hb2).alloc _
      · rw [if_neg hck] at hcon
        go_wp2_with fail
        refine hcon.mono ?_
        rintro e w2 ⟨rfl, hb2⟩
        go_wp2
        go_ret
        refine ⟨A', _, c', rfl, ?_, below_more hbel hb2 _⟩
        rw [← HF.out]
        exact (own_below hrow hb2).alloc _

set_option maxRecDepth 100000 in
set_option maxHeartbeats 1000000 in
theorem list_any (l : List Nat) (A : Option Addr) (n c : Nat) (w : World) (hb : Rd w 1 A n c (nval .u64 l)) (hl : ∀ m ∈ l, m < 18446744073709551616) (hn : n ≤ 1000) :
    Calls Try.prog 18 #[.slice A n c] w (Owned w 5 (bval (Var.list l))) := by
  obtain ⟨i0, hi, hz0, hz1, hz2⟩ := info_parts infoU8
  have hnl : n = l.length := by have := Rd.len hb; simpa [nval] using this
  have HN := Lib.hid hnl
  have hmax := Rd.max hb
  clear hnl
  go_enter Try.func18, Try.ntmps18
  go_wp2
  go_loopw [3, 8] (fun ov iv wr => ∃ (k : Nat) (A' : Option Addr) (m c' : Nat), k ≤ n ∧ iv = .int .i64 k ∧ ov = .slice A' m c' ∧ m ≤ 10 * k ∧ wr.ownsRow w.heap.size 5 1 (.slice A' m c') m (bval (Var.list (l.take k))) ∧ Below w.heap.size w wr) (fun _ iv _ => n - (intOf iv).toNat)
  case atStart => exact ⟨0, none, 0, 0, Nat.zero_le _, rfl, rfl, by omega, World.ownsRow_nil _ _ _ _, Below.refl _ _⟩
  case round =>
    obtain ⟨k, A', m, c', hk, rfl, rfl, hm, hrow, hbel⟩ := hrel
    by_cases hlt : k < n
    · obtain ⟨ad, rfl⟩ := Rd.addr hb (by omega)
      have hkl : k < l.length := by have := HN.out; omega
      have hc0 : wr.cell? (ad.add k) = some (.int .u64 (l[k] : Int)) := Rd.cell (hb.below hbel) (by simp [nval, hkl])
      have hlk := hl l[k] (List.getElem_mem hkl)
      have htk : l.take (k + 1) = l.take k ++ [l[k]] := List.take_succ_eq_append_getElem hkl
      obtain ⟨x, hx⟩ : ∃ x, x = l[k] := ⟨_, rfl⟩
      rw [← hx] at hc0 hlk htk
      have HT := Lib.hid htk
      clear htk hx
      go_wp2_with fail
      refine (put_any x _ hlk).mono ?_
      rintro e w2 ⟨B, nb, cb, rfl, hown2, hb2⟩
      have hrow2 := own_below hrow hb2
      have hbel2 := hbel.trans (hb2.mono hbel.size)
      have hbs2 := Bs.of_own hown2
      have hnb := hbs2.len
      have hpl := Var.put_length x
      have hnb10 : nb ≤ 10 := by omega
      clear hnb hpl
      go_wp2_with (first
        | (at_builtin
           refine wpList_append_rd _ rfl _ _ _ rfl w.heap.size 5 i0 _ 1 1 Try.underlying23 hi hz0 hz1 hz2 rfl (by omega) _ _ _ hrow2 rfl _ _ _ _ hbs2 rfl (bval_one _) (by unfold maxLen; omega) (by omega) hbel2.size _ rfl _ rfl ?_
           intro A3 c3 w3 hown3 hg3 hat3
           have hb3 := below_append hbel2 hrow2 hg3 (Nat.le_refl _) hbel2.size))
      go_roundw
      case rel =>
        refine ⟨k + 1, A3, m + nb, c3, by omega, by go_num, rfl, by omega, ?_, hb3⟩
        rw [HT.out, Var.list_snoc, bval_append]
        exact hown3
      case measure => simp [intOf]; omega
    · have hkn : k = n := by omega
      have HK := Lib.hid hkn
      clear hkn
      go_wp2
      go_ret
      refine ⟨A', m, c', rfl, ?_, hbel⟩
      rw [List.take_of_length_le (by have := HN.out; have := HK.out; omega)] at hrow
      exact hrow
end Go.Proofs.Ytgahgljfdoedjaa
