/- What was put in is had: plain. -/
import Derived.Test.YtcphcgkbjlgkiaaWith
namespace Go.Proofs.Ytcphcgkbjlgkiaa
open Go.RowKit Go.Lib

theorem ext_left (c s : ByteArray) (n : Nat) (h : c.size = n) : (c ++ s).extract 0 n = c := by
  subst h
  rw [ByteArray.ext_iff]
  simp
theorem ext_right (c s : ByteArray) (n : Nat) (h : c.size = n) : (c ++ s).extract n (c ++ s).size = s := by
  subst h
  rw [ByteArray.ext_iff, ByteArray.data_extract, ByteArray.data_append, ByteArray.size_append]
  show (c.data ++ s.data).extract c.data.size (c.data.size + s.data.size) = s.data
  rw [Array.extract_append]
  have h1 : c.data.extract c.data.size (c.data.size + s.data.size) = #[] := by
    apply Array.ext'
    rw [Array.toList_extract, List.extract_eq_take_drop, ← Array.length_toList, List.drop_length]
    simp
  rw [h1, Nat.sub_self, Nat.add_sub_cancel_left, Array.extract_size, Array.empty_append]
theorem ba_empty {s : ByteArray} (h : s.size = 0) : s = ⟨#[]⟩ := by
  rw [ByteArray.ext_iff]
  exact Array.eq_empty_of_size_eq_zero h
/-- What was put in is had. -/
theorem ckR_with (os : List Opt) (c s : ByteArray) (hr : rightB c s = true) : ckR (withO os c s) = (c, s, 0) := by
  have hf : (withO os c s).find? (Opt.is 10) = some ⟨10, c ++ s⟩ := by
    unfold withO
    rw [List.find?_append]
    have : (lefts 10 os).find? (Opt.is 10) = none := List.find?_eq_none.2 fun x hx => by
      have := (List.mem_filter.1 hx).2
      simpa using this
    rw [this]
    rfl
  have h8 : c.size = 8 := by
    simp only [rightB, Bool.and_eq_true, beq_iff_eq] at hr
    exact hr.1
  have hm : min (c ++ s).size 8 = 8 := by rw [ByteArray.size_append]; omega
  have hC : ckC (c ++ s) = c := by unfold ckC; rw [hm]; exact ext_left c s 8 h8
  have hS : ckS (c ++ s) = s := by unfold ckS; rw [hm]; exact ext_right c s 8 h8
  rw [ckR_of hf hC hS, if_pos hr]
end Go.Proofs.Ytcphcgkbjlgkiaa
