/- varint.All: the iterator's contract. -/
import Derived.Test.YtgahgljfdoedjaaSeq
import Derived.Test.YtgahgljfdoedjaaVarg
import Derived.Test.YtgahgljfdoedjaaVarl
namespace Go.Proofs.Ytgahgljfdoedjaa
open Go.RowKit

attribute [local go_sem] Oper.semAt_some

theorem Rd.kept {w w' : World} {sz n c : Nat} {A : Option Addr} {xs : List Value} (h : Rd w sz A n c xs) (hs : w.heap.size ≤ w'.heap.size) (hk : 0 < n → ∀ ad, A = some ad → w'.heap[ad.block]? = w.heap[ad.block]?) : Rd w' sz A n c xs :=
  ⟨h.1, h.2.1, h.2.2.1, fun hn => by
    obtain ⟨ad, e, hb, hc⟩ := h.2.2.2 hn
    exact ⟨ad, e, by omega, fun j u hu => (World.cell?_of_block (by rw [block_of_add]; exact hk hn ad e)).trans (hc j u hu)⟩⟩

/-- The blocks that the iterator wants kept: its box, and where its bytes lie. -/
def VK (Bx : Nat) (db : Option Nat) (k : Nat) : Prop := k = Bx ∨ db = some k

def boxLen (w : World) (Bx : Nat) : Nat := match w.cell? ⟨Bx, 0, none⟩ with
  | some (.slice _ n _) => n
  | _ => 0
theorem boxLen_of {w : World} {Bx n c : Nat} {t : TypeId} {A : Option Addr} (h : Boxed w Bx t (.slice A n c)) : boxLen w Bx = n := by
  unfold boxLen; rw [h.cell]

set_option maxRecDepth 100000 in
set_option maxHeartbeats 1000000 in
theorem vall_seq (n Bx m c : Nat) (A : Option Addr) (l : List UInt8) (db : Option Nat) (w : World) (hn : 1 ≤ n) (hx : Boxed w Bx 23 (.slice A m c)) (hb : Bs w A m c l) (hdb : 0 < m → ∀ ad, A = some ad → db = some ad.block) (hne : db ≠ some Bx) :
    SeqT Fence.wide n Try.prog 21 #[.pointer (some ⟨Bx, 0, none⟩)] (fun x : Nat => #[.int .u64 x]) (fun k => k = Bx) (VK Bx db) (fun xs => xs = Var.all l) (fun pre => pre <+: Var.all l) w := by
  intro lp J Jx W hbel hJ hJx hY h0
  have hx0 : Boxed W Bx 23 (.slice A m c) := (hbel.block Bx hx.lt).trans hx
  have hb0 : Bs W A m c l := hb.below hbel
  refine callsIn_of_wp Try.func21 rfl trivial ?_ rfl
  simp only [Try.ntmps21, List.size_toArray, List.length_cons, List.length_nil, Nat.reduceAdd, Nat.reduceSub, Array.replicate_succ, Array.replicate_zero, List.push_toArray, List.append_toArray, List.nil_append, List.cons_append]
  gi_wp2
  gi_loopw [6] (fun _ wr => ∃ (pre : List Nat) (r : List UInt8) (A' : Option Addr) (m' c' : Nat), Boxed wr Bx 23 (.slice A' m' c') ∧ Bs wr A' m' c' r ∧ (0 < m' → ∀ ad, A' = some ad → db = some ad.block) ∧ J pre wr ∧ Hid (pre ++ Var.all r = Var.all l)) (fun _ wr => boxLen wr Bx)
  case atStart => exact ⟨[], l, A, m, c, hx0, hb0, hdb, h0, rfl⟩
  case round =>
    obtain ⟨pre, r, A', m', c', hbx, hbr, hdr, hJp, HP⟩ := hrel
    have hc1 := hbx.cell
    have hf1 := hbx.frozen
    obtain ⟨g, hg⟩ : ∃ g, g = Var.get r := ⟨_, rfl⟩
    obtain ⟨N, Sz, E⟩ := g
    have HG := Lib.hid hg
    clear hg
    have hcon := get_any r A' m' c' wr hbr
    rw [← HG.out] at hcon
    by_cases hE : E = 0
    · subst hE
      have hE0 : (Var.get r).2.2 = 0 := by rw [← HG.out]
      have hsz := Var.get_size hE0
      rw [← HG.out] at hsz
      have hall := Var.all_ok hE0
      rw [← HG.out] at hall
      have hm' := hbr.len
      have hs1 : Sz ≤ m' := by have := hsz.2; simp only at this; omega
      have hmc := hbr.2.1
      have HM := Lib.hid hm'
      have HALL := Lib.hid hall
      have HSZ := Lib.hid hsz
      clear hm' hall hsz hE0
      have h01 : (0 : Int) ≤ Sz := by omega
      have h02 : (Sz : Int) ≤ m' := by omega
      obtain ⟨fn, tmps, assign, body, hy, hR⟩ := hY pre N wr hJp
      gi_wp2_with (refine ⟨trivial, ?_⟩; gi_at_call 10; refine (callsIn_wide.2 hcon).mono ?_; rintro e w3 ⟨rfl, rfl⟩)
      refine hR.mono ?_
      rintro e W3 (⟨rfl, hJ3, hk3⟩ | ⟨rfl, hJ3, hk3⟩)
      · have hbx3 : Boxed W3 Bx 23 (.slice A' m' c') := (hk3.2 Bx (.inl rfl)).trans hbx
        have hbr3 : Bs W3 A' m' c' r := Rd.kept hbr hk3.1 (fun h0 ad e => hk3.2 _ (.inr (hdr h0 ad e)))
        have hc3 := hbx3.cell
        have hf3 := hbx3.frozen
        have hne3 : 0 < m' → ∀ ad, A' = some ad → ad.block ≠ Bx := fun h0 ad e h => hne (by rw [hdr h0 ad e, h])
        gi_wp2
        go_roundw
        case rel =>
          refine ⟨pre ++ [N], r.drop Sz, _, m' - Sz, c' - Sz, hbx3.set _, ?_, ?_, hJ _ _ _ hJ3 ((Ext.refl _ _).setCell (T := fun k => k = Bx) (p := ⟨Bx, 0, none⟩) rfl _), ?_⟩
          · have hcut := Rd.cut hbr3 hs1
            simp only [Nat.mul_one, bval_drop] at hcut
            refine Rd.kept hcut (by simp [World.setCell]) (fun h0 ad e => Below.heap_setCell _ _ _ _ ?_)
            split at e
            · exact hne3 (by omega) ad e
            · obtain ⟨ad', e1, e2⟩ := Option.map_eq_some_iff.1 e
              rw [← e2, block_of_add]; exact hne3 (by omega) ad' e1
          · intro h0 ad e
            split at e
            · exact hdr (by omega) ad e
            · obtain ⟨ad', e1, e2⟩ := Option.map_eq_some_iff.1 e
              rw [← e2, block_of_add]; exact hdr (by omega) ad' e1
          · have h1 := HP.out
            rw [HALL.out] at h1
            unfold Hid
            simpa using h1
        case measure => rw [boxLen_of (hbx3.set _), boxLen_of hbx]; have := HSZ.out.1; omega
      · gi_wp2
        refine bodyPost_ret (results_none rfl _ _ _) rfl ?_
        refine ⟨⟨_, rfl⟩, .inr ⟨pre ++ [N], ⟨Var.all (r.drop Sz), ?_⟩, hJ3⟩⟩
        have h1 := HP.out
        rw [HALL.out] at h1
        simpa using h1
    · have hE1 : ((E : Int) != 0) = true := by rw [bne_iff_ne]; omega
      have HE := Lib.hid hE
      clear hE
      gi_wp2_with (refine ⟨trivial, ?_⟩; gi_at_call 10; refine (callsIn_wide.2 hcon).mono ?_; rintro e w3 ⟨rfl, rfl⟩)
      refine ⟨fun _ h => (by cases h), ?_⟩
      gi_wp2
      refine bodyPost_ret (results_none rfl _ _ _) rfl ?_
      refine ⟨⟨_, rfl⟩, .inl ⟨pre, ?_, hJp⟩⟩
      have h1 := HP.out
      have h2 : (Var.get r).2.2 ≠ 0 := by rw [← HG.out]; exact HE.out
      rw [Var.all_no h2] at h1
      simpa using h1
end Go.Proofs.Ytgahgljfdoedjaa
