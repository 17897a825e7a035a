/- utf.All: the iterator's contract. -/
import Derived.Test.YtpoameaaoapiiaaDoorUw3
import Derived.Test.YtpoameaaoapiiaaDoorSeq
namespace Go.Proofs.YtpoameaaoapiiaaDoor
open Go.RowKit

attribute [local go_sem] Oper.semAt_some

/-- How a scalar and its place are handed to yield. -/
def encS (x : Nat × Nat) : Array Value := #[.int .i64 x.1, .int .i64 x.2]

theorem Forms.kept {w w' : World} (h : Forms w) (hs : w.heap.size ≤ w'.heap.size) (hk : w'.heap[0]? = w.heap[0]?) : Forms w' :=
  ⟨Nat.lt_of_lt_of_le h.1 hs, fun j hj => (World.cell?_of_block (a := ⟨0, j, none⟩) hk).trans (h.2 j hj)⟩
theorem ext_of_below {T : Nat → Prop} {A B : World} (h : Below A.heap.size A B) : Ext T A B := Ext.of_below h

set_option maxRecDepth 100000 in
set_option maxHeartbeats 1000000 in
theorem walk_seq (n : Nat) (l : List UInt8) (T K : Nat → Prop) (W : World) (hn : 2 ≤ n) (hF : Forms W) (hl : l.length ≤ 4611686018427387904) (lp : Nat) (J Jx : List (Nat × Nat) → World → Prop)
    (hK : ∀ k, k = 0 → K k)
    (hJ : ∀ s A B, J s A → Ext T A B → J s B)
    (hY : ∀ pre x W1, J pre W1 → YieldAt Fence.wide (n - 1) Tryd.prog lp (encS x) W1 fun e W' =>
      (e = .returned (.bool true) ∧ J (pre ++ [x]) W' ∧ KKeeps K W1 W') ∨ (e = .returned (.bool false) ∧ Jx (pre ++ [x]) W' ∧ KKeeps K W1 W')) (h0 : J [] W) :
    CallsIn Fence.wide n Tryd.prog 41 #[.string (str l), .func (.yield lp) #[] #[]] W fun e W' => (∃ v, e = .returned v) ∧ ((∃ xs, xs = Utf.all l ∧ J xs W') ∨ (∃ pre, pre <+: Utf.all l ∧ Jx pre W')) := by
  have hn1 : 1 ≤ n := by omega
  refine callsIn_of_wp Tryd.func41 rfl trivial ?_ rfl
  simp only [Tryd.ntmps41, List.size_toArray, List.length_cons, List.length_nil, Nat.reduceAdd, Nat.reduceSub, Array.replicate_succ, Array.replicate_zero, List.push_toArray, List.append_toArray, List.nil_append, List.cons_append]
  gi_wp2
  gi_loopw [5] (fun av wr => ∃ (p : Nat) (pre : List (Nat × Nat)), av = .int .i64 p ∧ p ≤ l.length ∧ Forms wr ∧ J pre wr ∧ Hid (pre ++ (Utf.scan (l.drop p) p).1 = Utf.all l)) (fun av _ => l.length - (intOf av).toNat)
  case atStart => exact ⟨0, [], rfl, by omega, hF, h0, rfl⟩
  case round =>
    obtain ⟨p, pre, rfl, hp, hFw, hJp, HP⟩ := hrel
    by_cases hlt : p < l.length
    · obtain ⟨c, m, hn⟩ : ∃ c m, Utf.next (l.drop p) = (c, m) := ⟨_, _, rfl⟩
      have hcon := next_any (l.drop p) wr hFw
      rw [hn] at hcon
      have HN := Lib.hid hn
      have hle := Utf.next_le (l := l.drop p)
      rw [hn, List.length_drop] at hle
      simp only at hle
      clear hn
      by_cases hz : m = 0
      · subst hz
        gi_wp2_with (refine ⟨trivial, ?_⟩; gi_at_call 47; refine (callsIn_wide.2 hcon).mono ?_; rintro e w3 ⟨rfl, hB3⟩)
        refine ⟨fun _ h => (by cases h), ?_⟩
        gi_wp2
        refine bodyPost_ret (results_tmp rfl _ _ _) rfl ?_
        have h1 := HP.out
        rw [Utf.scan_no (by rw [HN.out]), List.append_nil] at h1
        exact ⟨⟨_, rfl⟩, .inl ⟨_, h1, hJ _ _ _ hJp (.of_below hB3)⟩⟩
      · have hzb : ((m : Int) == 0) = false := by simp; omega
        have h1 := HP.out
        rw [Utf.scan_ok (by rw [HN.out]; exact hz), HN.out, List.drop_drop] at h1
        have HP2 := Lib.hid h1
        clear h1
        gi_wp2_with (refine ⟨trivial, ?_⟩; gi_at_call 47; refine (callsIn_wide.2 hcon).mono ?_; rintro e w3 ⟨rfl, hB3⟩)
        have hJ3 := hJ _ _ _ hJp (.of_below hB3 (T := T))
        obtain ⟨fn, tmps, assign, body, hy, hR⟩ := hY pre (p, c) w3 hJ3
        unfold encS at hy
        gi_wp2
        refine hR.mono ?_
        rintro e W4 (⟨rfl, hJ4, hk4⟩ | ⟨rfl, hJ4, hk4⟩)
        · have hF4 : Forms W4 := (hFw.below hB3).kept hk4.1 (hk4.2 _ (hK _ rfl))
          gi_wp2
          go_roundw
          case rel => exact ⟨p + m, pre ++ [(p, c)], by simp, by omega, hF4, hJ4, by have := HP2.out; unfold Hid; simpa using this⟩
          case measure => simp [intOf]; omega
        · gi_wp2
          refine bodyPost_ret (results_tmp rfl _ _ _) rfl ?_
          exact ⟨⟨_, rfl⟩, .inr ⟨pre ++ [(p, c)], ⟨_, by have := HP2.out; simpa using this⟩, hJ4⟩⟩
    · gi_wp2
      refine bodyPost_ret (results_tmp rfl _ _ _) rfl ?_
      have h1 := HP.out
      rw [List.drop_eq_nil_of_le (by omega), Utf.scan_nil, List.append_nil] at h1
      exact ⟨⟨_, rfl⟩, .inl ⟨_, h1, hJp⟩⟩
theorem yieldAt_wide {P : Program} {n m l : Nat} {args : Array Value} {W : World} {R : Ending → World → Prop} (h : YieldAt Fence.wide n P l args W R) : YieldAt Fence.wide m P l args W R := by
  obtain ⟨fn, tmps, assign, body, h1, h2, h3⟩ := h
  exact ⟨fn, tmps, assign, body, h1, h2, fun c cs _ => h3 c cs (room_wide _)⟩

set_option maxRecDepth 100000 in
set_option maxHeartbeats 1000000 in
theorem uall_seq (n Bx : Nat) (l : List UInt8) (T K : Nat → Prop) (w : World) (hn : 3 ≤ n) (hx : Boxed w Bx 9 (.string (str l))) (hF : Forms w) (hl : l.length ≤ 4611686018427387904) (hK : ∀ k, k = 0 → K k) :
    SeqT Fence.wide n Tryd.prog 40 #[.pointer (some ⟨Bx, 0, none⟩)] encS T K (fun xs => xs = Utf.all l) (fun pre => pre <+: Utf.all l) w := by
  intro lp J Jx W hbel hJ hJx hY h0
  have hn1 : 1 ≤ n := by omega
  have hx0 : Boxed W Bx 9 (.string (str l)) := (hbel.block Bx hx.lt).trans hx
  have hc := hx0.cell
  have hF0 := hF.below hbel
  have hw := walk_seq (n - 1) l T K W (by omega) hF0 hl lp J Jx hK hJ (fun pre x W1 h => yieldAt_wide (hY pre x W1 h)) h0
  refine callsIn_of_wp Tryd.func40 rfl trivial ?_ rfl
  simp only [Tryd.ntmps40, List.size_toArray, List.length_cons, List.length_nil, Nat.reduceAdd, Nat.reduceSub, Array.replicate_succ, Array.replicate_zero, List.push_toArray, List.append_toArray, List.nil_append, List.cons_append]
  gi_wp2_with (refine ⟨trivial, ?_⟩; gi_at_call 41; refine hw.mono ?_; rintro e w3 ⟨⟨v, rfl⟩, hw3⟩)
  go_end0
  exact ⟨⟨_, rfl⟩, hw3⟩

theorem uallfn_any (l : List UInt8) (w : World) : Calls Tryd.prog 33 #[.string (str l)] w fun e w' => e = .returned (.func (.func 40) #[] #[.pointer (some ⟨w.heap.size, 0, none⟩)]) ∧ w.alloc (.cells #[.string (str l)] 9) = w' := by
  go_enter Tryd.func33, Tryd.ntmps33
  go_wp2
  go_ret
  exact ⟨rfl, rfl⟩
end Go.Proofs.YtpoameaaoapiiaaDoor
