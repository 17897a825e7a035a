/- FrameJoins: the walk. -/
import Derived.Test.YtcoilgfjabnoeaaFl2
namespace Go.Proofs.Ytcoilgfjabnoeaa
open Go.RowKit

/-- The bytes of lists, and one more for each. -/
def tot : List (List UInt8) → Nat
  | [] => 0
  | b :: ls => b.length + 1 + tot ls
theorem tot_append (a b : List (List UInt8)) : tot (a ++ b) = tot a + tot b := by
  induction a with
  | nil => simp [tot]
  | cons x a ih => simp only [List.cons_append, tot, ih]; omega
theorem tot_len (ls : List (List UInt8)) : ls.length ≤ tot ls := by
  induction ls with
  | nil => simp
  | cons x a ih => simp only [List.length_cons, tot]; omega
theorem put_tot (ls : List (List UInt8)) : (Fr.put ls).length ≤ 10 * tot ls := by
  induction ls with
  | nil => simp [Fr.put, tot]
  | cons b ls ih =>
    have h2 := Var.put_length b.length
    simp only [Fr.put, List.length_append, tot]; omega
theorem mem_tot {ls : List (List UInt8)} {b : List UInt8} (h : b ∈ ls) : b.length < tot ls := by
  induction ls with
  | nil => simp at h
  | cons x ls ih =>
    simp only [tot]
    rcases List.mem_cons.1 h with rfl | h
    · omega
    · have := ih h; omega
theorem tot_take_succ (ls : List (List UInt8)) (k : Nat) (h : k < ls.length) : tot (ls.take (k + 1)) = tot (ls.take k) + (ls[k].length + 1) := by
  rw [List.take_succ_eq_append_getElem h, tot_append]; simp [tot]
theorem tot_take_le (ls : List (List UInt8)) (k : Nat) : tot (ls.take k) ≤ tot ls := by
  have := tot_append (ls.take k) (ls.drop k)
  rw [List.take_append_drop] at this
  omega
theorem Els.append {w : World} {xs ys : List Value} {ls ms : List (List UInt8)} {T : Nat → Prop} (h : Els w xs ls T) (h2 : Els w ys ms T) : Els w (xs ++ ys) (ls ++ ms) T := by
  refine ⟨by simp [h.1, h2.1], fun j hj => ?_⟩
  by_cases hlt : j < ls.length
  · obtain ⟨A, n, c, e, hb, hT⟩ := h.2 j hlt
    exact ⟨A, n, c, by rw [List.getElem?_append_left (by rw [h.1]; exact hlt)]; exact e, by rw [List.getElem_append_left hlt]; exact hb, hT⟩
  · obtain ⟨A, n, c, e, hb, hT⟩ := h2.2 (j - ls.length) (by simp at hj; omega)
    refine ⟨A, n, c, ?_, ?_, hT⟩
    · rw [List.getElem?_append_right (by rw [h.1]; omega), h.1]; exact e
    · rw [List.getElem_append_right (by omega)]; exact hb
theorem Els.one {w : World} {xs : List Value} {ls : List (List UInt8)} {T : Nat → Prop} (h : Els w xs ls T) : ∀ u ∈ xs, u.oneCell' = true := by
  intro u hu
  obtain ⟨j, hj, rfl⟩ := List.getElem_of_mem hu
  obtain ⟨A, n, c, e, _⟩ := h.2 j (by rw [← h.1]; exact hj)
  rw [List.getElem?_eq_getElem hj] at e
  rw [Option.some.inj e]; rfl
theorem own_empty_row (w : World) (base : Nat) (h : base ≤ w.heap.size) : (w.alloc (.cells #[] 22)).ownsRow base 22 1 (.slice (some ⟨w.heap.size, 0, none⟩) 0 0) 0 [] :=
  World.ownsRow_lit w #[] 0 h (by simp [maxLen]) rfl
/-- The elements of an argument lie below the base. -/
theorem Els.below_arg {w : World} {xs : List Value} {ls : List (List UInt8)} (h : Els w xs ls (fun _ => False)) : Els w xs ls (fun k => w.heap.size ≤ k) :=
  h.weaken (fun k hk h2 => by omega)

set_option maxRecDepth 1000000 in
set_option maxHeartbeats 4000000 in
theorem framejoins_any (la lb : List (List UInt8)) (A B : Option Addr) (n c m d : Nat) (w : World) (ha : Bss w A n c la) (hb : Bss w B m d lb) (ht : tot la + tot lb ≤ 1048576) :
    Calls Try.prog 7 #[.slice A n c, .slice B m d] w fun e w' => e = .returned (.bool true) ∧ Below w.heap.size w w' := by
  have hla := ha.len
  have hlb := hb.len
  have hnl := tot_len la
  have hml := tot_len lb
  have hn : n ≤ 1048576 := by omega
  have hm : m ≤ 1048576 := by omega
  have HL := Lib.hid (And.intro hla (And.intro hlb ht))
  clear hla hlb hnl hml ht
  go_enter Try.func7, Try.ntmps7
  go_wp2_with fail
  refine (frwakes_any w).mono ?_
  rintro e w1 ⟨rfl, hb1⟩
  have ha1 := ha.below hb1
  have hb1' := hb.below hb1
  obtain ⟨xa, hra, hea⟩ := ha1
  obtain ⟨xb, hrb, heb⟩ := hb1'
  have hea1 := hea.below_arg
  have heb1 := heb.below_arg
  have hBe : Below w.heap.size w (w1.alloc (.cells #[] 22)) := hb1.alloc hb1.size _
  have tok1 : True := trivial
  go_wp2_with (first
    | (at_builtin
       have _t := tok1
       refine wpList_app_row (o := ⟨some 15, _, _, _, _, _⟩) w1 rfl _ _ rfl w1.heap.size [] xa _ _ _ (own_empty_row w1 _ (Nat.le_refl _)) rfl _ _ _ (hra.alloc _) rfl hea.one (by omega) (by simp) ((Below.refl _ _).alloc (Nat.le_refl _) _) n (by omega) xa rfl ?_
       intro A2 c2 w2 hown2 hB2 hg2 _
       clear tok1)
    | (at_builtin
       refine wpList_app_row (o := ⟨some 17, _, _, _, _, _⟩) w1 rfl _ _ rfl w1.heap.size xa xb _ _ _ hown2 rfl _ _ _ (hrb.below hB2) rfl heb.one (by omega) hB2.size hB2 (n + m) rfl (xa ++ xb) rfl ?_
       intro A3 c3 w3 hown3 hB3 hg3 _)
)
  have hbss3 : Bss w3 A3 (n + m) c3 (la ++ lb) := ⟨xa ++ xb, Rd.of_own hown3, ((hea1.append heb1).keep hB3.size (fun k hk hT => hB3.block k (by omega))).weaken (fun k _ h => h.elim)⟩
  have hB3' : Below w.heap.size w w3 := hb1.trans (hB3.mono hb1.size)
  have ha3 := ha.below hB3'
  have hb3 := hb.below hB3'
  have hlen3 : n + m = (la ++ lb).length := hbss3.len
  have HT : Hid (n + m = (la ++ lb).length ∧ tot (la ++ lb) ≤ 1048576) := ⟨hlen3, by rw [tot_append]; exact HL.out.2.2⟩
  clear hown3 hown2 hg2 hg3 hB2 hea1 heb1 hea heb hra hrb hBe hlen3
  go_loop [5, 19] (fun nv iv => ∃ k t : Nat, iv = .int .i64 k ∧ nv = .int .i64 t ∧ k ≤ n + m ∧ t ≤ 1048576 ∧ Hid (t = tot ((la ++ lb).take k))) (fun _ iv => n + m - (intOf iv).toNat)
  case atStart => exact ⟨0, 0, rfl, rfl, by omega, by omega, by simp [tot, Hid]⟩
  case round =>
    obtain ⟨k, t, rfl, rfl, hk, hT, HK⟩ := hrel
    by_cases hlt : k < n + m
    · have hkl : k < (la ++ lb).length := by have := HT.out.1; omega
      obtain ⟨ad, rfl⟩ := hbss3.addr (by omega)
      obtain ⟨A5, m5, c5, hc5, hb5⟩ := hbss3.cell (k := k) hkl
      have hm5 := hb5.len
      have hs := tot_take_succ (la ++ lb) k hkl
      have hle := tot_take_le (la ++ lb) (k + 1)
      have HK2 : Hid (t + (m5 + 1) = tot ((la ++ lb).take (k + 1))) := by unfold Hid; rw [hs, ← HK.out, hm5]
      have hle2 : t + (m5 + 1) ≤ 1048576 := by have := HK2.out; have := HT.out.2; omega
      clear hm5 hb5 hs hle
      go_wp2
      go_round
      case rel => exact ⟨k + 1, t + (m5 + 1), by go_num, by go_num, by omega, hle2, HK2⟩
      case measure => simp [intOf]; omega
    · obtain rfl : k = n + m := by omega
      have hfull : (la ++ lb).take (n + m) = la ++ lb := List.take_of_length_le (by have := HT.out.1; omega)
      by_cases h2 : t ≤ 2000
      · have d1 : decide ((2000 : Int) < t) = false := by simp; omega
        have htt : tot (la ++ lb) ≤ 2000 := by have := HK.out; rw [hfull] at this; omega
        have hpt := put_tot (la ++ lb)
        have hpa := Fr.put_append la lb
        have hpt2 := put_tot la
        have hpt3 := put_tot lb
        rw [tot_append] at htt hpt
        have hsp := Fr.split_put (la ++ lb) (fun b hb => by have := mem_tot hb; rw [tot_append] at this; omega)
        have hlens : (Fr.put la).length + (Fr.put lb).length = (Fr.put (la ++ lb)).length := by rw [hpa]; simp
        have q1 : (Fr.put la).length ≤ 20000 := by omega
        have q2 : (Fr.put lb).length ≤ 20000 := by omega
        have q3 : (Fr.put (la ++ lb)).length ≤ 20000 := by omega
        have HP := Lib.hid (And.intro hpa (And.intro hsp hlens))
        clear htt hpt hpa hpt2 hpt3 hsp hlens hfull
        go_wp2_with fail
        refine (frput_any la A n c w3 ha3 (by omega)).mono ?_
        rintro e w4 ⟨A4, n4, c4, rfl, hown4, hb4⟩
        have hb4' := hb3.below hb4
        have hn4 := own_len hown4
        have hn42 : n4 ≤ 20000 := by omega
        have HN4 := Lib.hid hn4
        clear hn4
        go_wp2_with fail
        refine (frput_any lb B m d w4 hb4' (by omega)).mono ?_
        rintro e w5 ⟨A5, n5, c5, rfl, hown5, hb5⟩
        have hn5 := own_len hown5
        have hown4' := own_keep hown4 hb5
        have hB5 : Below w3.heap.size w3 w5 := hb4.trans (hb5.mono hb4.size)
        have hsum : n4 + n5 ≤ 40000 := by omega
        have HN := Lib.hid hn5
        clear hn5
        have tok2 : True := trivial
        go_wp2_with (
          (at_builtin
           have _t := tok2
           refine wpList_app w3 rfl _ _ rfl w3.heap.size (Fr.put la) (Fr.put lb) _ _ _ hown4' rfl _ _ _ (own_bs hown5) rfl (by omega) hB5.size hB5 (n4 + n5) rfl (Fr.put (la ++ lb)) HP.out.1.symm ?_
           intro A6 c6 w6 hown6 hB6 hg6
           clear tok2
           have HX : Hid (Bs w6 A6 (n4 + n5) c6 (Fr.put (la ++ lb)) ∧ Below w3.heap.size w3 w6) := ⟨own_bs hown6, hB6⟩
           clear hown6 hB6 hg6))
        obtain ⟨hX, hB6⟩ := HX.out
        clear HX
        refine (frsplit_any (Fr.put (la ++ lb)) A6 (n4 + n5) c6 w6 hX (by omega)).mono ?_
        rintro e w7 ⟨A7, n7, c7, rfl, hs7, hb7⟩
        rw [HP.out.2.1] at hs7 ⊢
        replace hs7 : Bss w7 A7 n7 c7 (la ++ lb) := hs7
        have hn7 : n7 = n + m := by rw [hs7.len, HT.out.1]
        subst hn7
        have hX7 := hX.below hb7
        have hB7 : Below w3.heap.size w3 w7 := hB6.trans (hb7.mono hB6.size)
        have ha7 := ha3.below hB7
        have hb7' := hb3.below hB7
        obtain ⟨ya, hra, hea⟩ := ha7
        obtain ⟨yb, hrb, heb⟩ := hb7'
        have hea1 := hea.below_arg
        have heb1 := heb.below_arg
        have dn : ((n : Int) + (m : Int) == (n : Int) + (m : Int)) = true := beq_self_eq_true _
        have tok3 : True := trivial
        clear hb7 hX hB6
        go_wp2_with (first
          | (at_builtin
             have _t := tok3
             refine wpList_app_row w7 rfl _ _ rfl w7.heap.size [] ya _ _ _ (own_empty_row w7 _ (Nat.le_refl _)) rfl _ _ _ (hra.alloc _) rfl hea.one (by omega) (by simp) ((Below.refl _ _).alloc (Nat.le_refl _) _) n (by omega) ya rfl ?_
             intro A8 c8 w8 hown8 hB8 hg8 _
             clear tok3)
          | (at_builtin
             refine wpList_app_row w7 rfl _ _ rfl w7.heap.size ya yb _ _ _ hown8 rfl _ _ _ (hrb.below hB8) rfl heb.one (by omega) hB8.size hB8 (n + m) rfl (ya ++ yb) rfl ?_
             intro A9 c9 w9 hown9 hB9 hg9 _))
        have hbss9 : Bss w9 A9 (n + m) c9 (la ++ lb) := ⟨ya ++ yb, Rd.of_own hown9, ((hea1.append heb1).keep hB9.size (fun k hk hT => hB9.block k (by omega))).weaken (fun k _ h => h.elim)⟩
        have hX9 := hX7.below hB9
        have hB9' : Below w3.heap.size w3 w9 := hB7.trans (hB9.mono hB7.size)
        have q3' := q3
        clear hown9 hown8 hg8 hg9 hB8 hea1 heb1 hea heb hra hrb
        refine (frrefput_any (la ++ lb) A9 (n + m) c9 w9 hbss9 (by omega)).mono ?_
        rintro e wA ⟨AA, nA, cA, rfl, hownA, hbA⟩
        go_wp2_with fail
        refine (same_any (Fr.put (la ++ lb)) (Fr.put (la ++ lb)) A6 AA (n4 + n5) c6 nA cA wA (hX9.below hbA) (own_bs hownA)).mono ?_
        rintro e wC ⟨rfl, qC, rfl⟩
        have hdd : decide (Fr.put (la ++ lb) = Fr.put (la ++ lb)) = true := by simp
        have hBA := hB9'.trans (hbA.mono hB9'.size)
        clear hownA hbA
        go_wp2
        go_ret
        exact ⟨rfl, below_drewN (hB3'.trans (hBA.mono hB3'.size)) _⟩
      · have d1 : decide ((2000 : Int) < t) = true := by simp; omega
        clear hfull
        go_wp2
        go_ret
        exact ⟨rfl, hB3'⟩
end Go.Proofs.Ytcoilgfjabnoeaa
