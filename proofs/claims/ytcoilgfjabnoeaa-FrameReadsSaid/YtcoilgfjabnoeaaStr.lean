/- Strings as lists of bytes: what a walk meets. No program in sight. -/
import Derived.Test.YtcoilgfjabnoeaaBase
import Derived.Laws.DeepStrings4
import Derived.Laws.Concat
import Derived.Laws.IdiomStrings
import Derived.WalkKit
namespace Go.Proofs.Ytcoilgfjabnoeaa
open Go.RowKit

/-- The string of these bytes. -/
def str (l : List UInt8) : ByteArray := ⟨l.toArray⟩
/-- The byte at a place. -/
def nth (l : List UInt8) (i : Nat) : Int := ((l.getD i 0).toNat : Int)
theorem nth_eq {l : List UInt8} {i : Nat} (h : i < l.length) : nth l i = (l[i].toNat : Int) := by unfold nth; rw [List.getD_eq_getElem?_getD, List.getElem?_eq_getElem h]; rfl
theorem str_data (s : ByteArray) : s = str s.data.toList := by cases s; simp [str]
theorem str_size (l : List UInt8) : (str l).size = l.length := by simp [str, ByteArray.size]
theorem str_toList (l : List UInt8) : (str l).toList = l := by unfold str; rw [ByteArray.toList_mk]
theorem str_getElem (l : List UInt8) (i : Nat) (h : i < (str l).size) : (str l)[i] = l[i]'(by rwa [str_size] at h) := by
  simp only [str]; rfl
theorem str_extract (l : List UInt8) (a b : Nat) : (str l).extract a b = str ((l.drop a).take (b - a)) := by unfold str; exact ByteArray.extract_mk l a b
theorem str_append (a b : List UInt8) : str a ++ str b = str (a ++ b) := by unfold str; rw [ByteArray.mk_append_mk]

section
variable {P : Program} (w : World)
theorem run_len_str (t ty : TypeId) (l : List UInt8) (h : P.underlying t = some .string) : (Builtin.len_ #[t] ty #[.string (str l)]).run P w = .ok (goInt l.length) w := by
  rw [run_len_string w t ty _ h, str_size]
theorem run_index_str (t : TypeId) (l : List UInt8) (k : IntKind) (i : Int) (h : P.underlying t = some .string) :
    (Instr.index t (.string (str l)) (.int k i)).run P w =
      if 0 ≤ i ∧ i < l.length then .ok (.int .u8 (nth l i.toNat)) w else (boundsPanic k i l.length .index).run P w := by
  rw [run_index_string w t _ k i h]
  by_cases hi : 0 ≤ i ∧ i < l.length
  · rw [dif_pos (by rwa [str_size]), if_pos hi, str_getElem, nth_eq (by omega)]
  · rw [dif_neg (by rwa [str_size]), if_neg hi, str_size]
theorem run_slice_str_from (t : TypeId) (l : List UInt8) (k : IntKind) (i : Int) (h : P.underlying t = some .string) :
    (Instr.slice t (.string (str l)) (some (.int k i)) none none).run P w =
      if 0 ≤ i ∧ i ≤ (l.length : Int) then .ok (.string (str (l.drop i.toNat))) w else ((boundsPanic k i l.length .sliceB : Sem Nat).run P w).andThen fun a w' => .ok (.string ((str l).extract a l.length)) w' := by
  rw [run_slice_string_from_if w t _ k i h, str_size, str_extract, List.take_of_length_le (by simp)]
theorem run_slice_str_to (t : TypeId) (l : List UInt8) (k : IntKind) (j : Int) (h : P.underlying t = some .string) :
    (Instr.slice t (.string (str l)) none (some (.int k j)) none).run P w =
      if 0 ≤ j ∧ j ≤ (l.length : Int) then .ok (.string (str (l.take j.toNat))) w else ((boundsPanic k j l.length .sliceAlen : Sem Nat).run P w).andThen fun a w' => .ok (.string ((str l).extract 0 a)) w' := by
  rw [run_slice_string_to_if w t _ k j h, str_size, str_extract, List.drop_zero, Nat.sub_zero]
theorem run_slice_str (t : TypeId) (l : List UInt8) (k k' : IntKind) (i j : Int) (h : P.underlying t = some .string) (h0 : 0 ≤ i ∧ i ≤ j ∧ j ≤ l.length) :
    (Instr.slice t (.string (str l)) (some (.int k i)) (some (.int k' j)) none).run P w = .ok (.string (str ((l.drop i.toNat).take (j.toNat - i.toNat)))) w := by
  rw [run_slice_string w t _ k k' i j h h0.1 h0.2.1 (by rw [str_size]; exact h0.2.2), str_extract]
theorem run_add_str (a b : List UInt8) (h : a.length + b.length ≤ 9223372036854775807) : (Op.stringOp .add (str a) (str b)).run P w = .ok (.string (str (a ++ b))) w := by
  rw [run_string_add_sum w _ _ (by rw [str_size, str_size]; exact h), str_append]
theorem run_convert_bs (src dst e : TypeId) (hs : P.underlying src = some (.slice e)) (he : P.underlying e = some (.int .u8)) (hd : P.underlying dst = some .string)
    {A : Option Addr} {n c : Nat} {l : List UInt8} (hb : Bs w A n c l) : (convert src dst (.slice A n c)).run P w = .ok (.string (str l)) w := by
  have hn := hb.len
  rcases Nat.eq_zero_or_pos n with h0 | h0
  · have hl : l = [] := List.eq_nil_of_length_eq_zero (by omega)
    subst hl h0
    cases A with
    | none =>
      have := run_convert_bytes_nil (P := P) w src e hs he 0 c dst hd
      rw [this]; rfl
    | some ad =>
      exact run_convert_bytes_back w src dst e ad c [] hs he hd (fun j hj => by simp at hj)
  · obtain ⟨ad, rfl⟩ := hb.addr h0
    rw [hn]
    exact run_convert_bytes_back w src dst e ad c l hs he hd (fun j hj => hb.cell hj)
end
theorem eql_str (t : TypeId) (a b : List UInt8) : binOp .eql t (.string (str a)) (.string (str b)) = pure (.bool (a == b)) := by rw [binOp_string_eql, str_toList, str_toList]
theorem neq_str (t : TypeId) (a b : List UInt8) : binOp .neq t (.string (str a)) (.string (str b)) = pure (.bool !(a == b)) := by rw [binOp_string_neq, str_toList, str_toList]
theorem lss_str (t : TypeId) (a b : List UInt8) : binOp .lss t (.string (str a)) (.string (str b)) = pure (.bool (Op.bytesLess a b)) := by rw [binOp_string_lss, str_toList, str_toList]
attribute [go_sem high] run_len_str run_index_str run_slice_str_from run_slice_str_to run_slice_str eql_str neq_str lss_str
attribute [go_sem] str_toList str_size
end Go.Proofs.Ytcoilgfjabnoeaa
