/- frame.Put, tabulariumref05.Put. -/
import Derived.Test.YtcoilgfjabnoeaaEls
import Derived.Test.YtcoilgfjabnoeaaFrp
import Derived.Test.YtcoilgfjabnoeaaVarp
namespace Go.Proofs.Ytcoilgfjabnoeaa
open Go.RowKit

theorem put_take_le (ls : List (List UInt8)) (k : Nat) : (Fr.put (ls.take k)).length ≤ (Fr.put ls).length := by
  have := congrArg List.length (Fr.put_append (ls.take k) (ls.drop k))
  rw [List.take_append_drop] at this
  simp at this; omega
theorem put_take_succ (ls : List (List UInt8)) (k : Nat) (h : k < ls.length) : Fr.put (ls.take (k + 1)) = (Fr.put (ls.take k) ++ Var.put ls[k].length) ++ ls[k] := by
  rw [List.take_succ_eq_append_getElem h, Fr.put_snoc]

set_option maxRecDepth 1000000 in
set_option maxHeartbeats 2000000 in
theorem frput_any (ls : List (List UInt8)) (A : Option Addr) (n c : Nat) (w : World) (hb : Bss w A n c ls) (hlen : (Fr.put ls).length ≤ 100000000) :
    Calls Try.prog 24 #[.slice A n c] w (Owned w 5 (bval (Fr.put ls))) := by
  have hl := hb.len
  have hmax := hb.max
  have HL := Lib.hid hl
  clear hl
  go_enter Try.func24, Try.ntmps24
  go_wp2
  go_loopw [3, 8] (fun ov iv wr => ∃ (k : Nat) (A : Option Addr) (m c : Nat), iv = .int .i64 k ∧ k ≤ n ∧ ov = .slice A m c ∧ wr.ownsRow w.heap.size 5 1 (.slice A m c) m (bval (Fr.put (ls.take k))) ∧ Below w.heap.size w wr) (fun _ iv _ => n - (intOf iv).toNat)
  case atStart => exact ⟨0, none, 0, 0, rfl, by omega, rfl, own_nil _ _, Below.refl _ _⟩
  case round =>
    obtain ⟨k, A3, m, c3, rfl, hk, rfl, hown, hB⟩ := hrel
    by_cases hlt : k < n
    · have hkl : k < ls.length := by have := HL.out; omega
      obtain ⟨ad, rfl⟩ := hb.addr (by omega)
      obtain ⟨A4, m4, c4, hcell, hbs0⟩ := hb.cellAt hB hkl
      have hbs := hbs0.below hB
      have hle := put_take_le ls (k + 1)
      have hsucc := put_take_succ ls k hkl
      have hm4 := hbs.len
      have hm4m := hbs.max
      have hmm := own_len hown
      have hlens : m + (Var.put ls[k].length).length + m4 ≤ 100000000 := by
        rw [hsucc] at hle; simp at hle; omega
      generalize ls[k] = b at *
      rw [← hm4] at hsucc hlens
      have HS := Lib.hid hsucc
      have HM := Lib.hid (And.intro hm4 hmm)
      clear hsucc hm4 hmm hle
      go_wp2_with fail
      refine (put_any m4 wr (by omega)).mono ?_
      rintro e w2 ⟨A5, m5, c5, rfl, hown5, hB5⟩
      have hm5 : m5 = (Var.put m4).length := own_len hown5
      have hownk := own_keep hown hB5
      have hbs5 := hbs.below hB5
      have hBk := hB.trans (hB5.mono hB.size)
      have HM5 := Lib.hid hm5
      clear hm5
      go_wp2_with (first
        | (at_builtin
           refine wpList_app (o := ⟨some 17, _, _, _, _, _⟩) w rfl _ _ rfl w.heap.size (Fr.put (ls.take k)) (Var.put m4) _ _ _ hownk rfl _ _ _ (own_bs hown5) rfl (by have := HM5.out; omega) hBk.size hBk _ rfl _ rfl ?_
           intro A6 c6 w6 hown6 hB6 hg6
           have hbs6 : Bs w6 A4 m4 c4 b := hbs5.keepT (T := fun j => (Value.slice A3 m c3).ownBlock = some j) (fun ad e hn hT => by have h1 := hbs0.lt ad e hn; have h2 := (hownk.lt _ hT).1; omega) hg6.size (fun j hj hT => hg6.block j hj (fun e => hT e.symm)))
        | (at_builtin
           refine wpList_app (o := ⟨some 19, _, _, _, _, _⟩) w rfl _ _ rfl w.heap.size (Fr.put (ls.take k) ++ Var.put m4) b _ _ _ hown6 rfl _ _ _ hbs6 rfl (by have := HM5.out; omega) hB6.size hB6 _ rfl _ rfl ?_
           intro A7 c7 w7 hown7 hB7 hg7))
      go_roundw
      case rel => exact ⟨k + 1, A7, _, c7, by go_num, by omega, rfl, by rw [HS.out]; exact hown7, hB7⟩
      case measure => simp [intOf]; omega
    · obtain rfl : k = n := by omega
      have he : ls.take k = ls := List.take_of_length_le (by have := HL.out; omega)
      rw [he] at hown
      have HO := Lib.hid hown
      clear he hown
      go_wp2
      go_ret
      exact ⟨A3, m, c3, rfl, HO.out, hB⟩

set_option maxRecDepth 1000000 in
set_option maxHeartbeats 2000000 in
theorem frrefput_any (ls : List (List UInt8)) (A : Option Addr) (n c : Nat) (w : World) (hb : Bss w A n c ls) (hlen : (Fr.put ls).length ≤ 100000000) :
    Calls Try.prog 25 #[.slice A n c] w (Owned w 5 (bval (Fr.put ls))) := by
  have hl := hb.len
  have hmax := hb.max
  have HL := Lib.hid hl
  clear hl
  go_enter Try.func25, Try.ntmps25
  go_wp2
  go_loopw [3, 4] (fun ov iv wr => ∃ (k : Nat) (A : Option Addr) (m c : Nat), iv = .int .i64 k ∧ k ≤ n ∧ ov = .slice A m c ∧ wr.ownsRow w.heap.size 5 1 (.slice A m c) m (bval (Fr.put (ls.take k))) ∧ Below w.heap.size w wr) (fun _ iv _ => n - (intOf iv).toNat)
  case atStart => exact ⟨0, none, 0, 0, rfl, by omega, rfl, own_nil _ _, Below.refl _ _⟩
  case round =>
    obtain ⟨k, A3, m, c3, rfl, hk, rfl, hown, hB⟩ := hrel
    by_cases hlt : k < n
    · have hkl : k < ls.length := by have := HL.out; omega
      obtain ⟨ad, rfl⟩ := hb.addr (by omega)
      obtain ⟨A4, m4, c4, hcell, hbs0⟩ := hb.cellAt hB hkl
      have hbs := hbs0.below hB
      have hlt0 := hb.addr_lt (by omega) k
      have hle := put_take_le ls (k + 1)
      have hsucc := put_take_succ ls k hkl
      have hm4 := hbs.len
      have hm4m := hbs.max
      have hmm := own_len hown
      have hlens : m + (Var.put ls[k].length).length + m4 ≤ 100000000 := by
        rw [hsucc] at hle; simp at hle; omega
      generalize ls[k] = b at *
      rw [← hm4] at hsucc hlens
      have HS := Lib.hid hsucc
      have HM := Lib.hid (And.intro hm4 hmm)
      clear hsucc hm4 hmm hle
      go_wp2_with fail
      refine (refput_any m4 wr (by omega)).mono ?_
      rintro e w2 ⟨A5, m5, c5, rfl, hown5, hB5⟩
      have hm5 : m5 = (Var.put m4).length := own_len hown5
      have hownk := own_keep hown hB5
      have hbs5 := hbs.below hB5
      have hBk := hB.trans (hB5.mono hB.size)
      have HM5 := Lib.hid hm5
      clear hm5
      go_wp2_with (first
        | (at_builtin
           refine wpList_app (o := ⟨some 19, _, _, _, _, _⟩) w rfl _ _ rfl w.heap.size (Fr.put (ls.take k)) (Var.put m4) _ _ _ hownk rfl _ _ _ (own_bs hown5) rfl (by have := HM5.out; omega) hBk.size hBk _ rfl _ rfl ?_
           intro A6 c6 w6 hown6 hB6 hg6
           have hbs6 : Bs w6 A4 m4 c4 b := hbs5.keepT (T := fun j => (Value.slice A3 m c3).ownBlock = some j) (fun ad e hn hT => by have h1 := hbs0.lt ad e hn; have h2 := (hownk.lt _ hT).1; omega) hg6.size (fun j hj hT => hg6.block j hj (fun e => hT e.symm))
           have hcell6 : w6.cell? (ad.add k) = some (.slice A4 m4 c4) := (hB6.cell hlt0).trans ((hB.cell hlt0).symm.trans hcell))
        | (at_builtin
           refine wpList_app (o := ⟨some 25, _, _, _, _, _⟩) w rfl _ _ rfl w.heap.size (Fr.put (ls.take k) ++ Var.put m4) b _ _ _ hown6 rfl _ _ _ hbs6 rfl (by have := HM5.out; omega) hB6.size hB6 _ rfl _ rfl ?_
           intro A7 c7 w7 hown7 hB7 hg7))
      go_roundw
      case rel => exact ⟨k + 1, A7, _, c7, by go_num, by omega, rfl, by rw [HS.out]; exact hown7, hB7⟩
      case measure => simp [intOf]; omega
    · obtain rfl : k = n := by omega
      have he : ls.take k = ls := List.take_of_length_le (by have := HL.out; omega)
      rw [he] at hown
      have HO := Lib.hid hown
      clear he hown
      go_wp2
      go_ret
      exact ⟨A3, m, c3, rfl, HO.out, hB⟩
end Go.Proofs.Ytcoilgfjabnoeaa
