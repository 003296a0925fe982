/- Plain laws on a text's words: no program in sight. -/
import Derived.Test.YtcphcgkbjlgkiaaBytes
import Derived.Lib.Strings
import Derived.Lib.IndexBytes
namespace Go.Proofs.Ytcphcgkbjlgkiaa
open Go.RowKit

/-- Word i of a text that has it whole; the last one, which tells the length too; all of them. -/
def wordI (l : List UInt8) (i : Nat) : Nat := lowL ((l.drop (8 * i)).take 8)
def wordE (l : List UInt8) : Nat := lowL (l.drop (8 * (l.length / 8))) + (l.length % 256) * 72057594037927936
def wordsL (l : List UInt8) : List Nat := (List.range (l.length / 8)).map (wordI l) ++ [wordE l]
theorem wordsL_length (l : List UInt8) : (wordsL l).length = l.length / 8 + 1 := by simp [wordsL]
theorem wordI_lt (l : List UInt8) (i : Nat) : wordI l i < 18446744073709551616 := lowL_lt64 _ (by simp; omega)
theorem lowE_lt (l : List UInt8) : lowL (l.drop (8 * (l.length / 8))) < 72057594037927936 := by
  have h1 := lowL_lt (l.drop (8 * (l.length / 8)))
  have h2 : 256 ^ (l.drop (8 * (l.length / 8))).length ≤ 256 ^ 7 := Nat.pow_le_pow_right (by omega) (by simp; omega)
  have h3 : 256 ^ 7 = 72057594037927936 := by decide
  omega
theorem wordE_lt (l : List UInt8) : wordE l < 18446744073709551616 := by
  have := lowE_lt l
  unfold wordE; omega
/-- The last word, as the 'or' of its two parts. -/
theorem or_last (m n : Nat) (hm : m < 72057594037927936) :
    bits .or .u64 (m : Int) (IntKind.u64.wrap ((n : Int) * 72057594037927936)) = ((m + (n % 256) * 72057594037927936 : Nat) : Int) := by
  have e1 : IntKind.u64.wrap ((n : Int) * 72057594037927936) = (((n % 256) * 72057594037927936 : Nat) : Int) := by
    rw [IntKind.wrap_u64]; omega
  rw [e1, u64_or_nat _ _ (by omega) (by omega), Nat.or_comm, nat_join 56 _ _ (by omega) (by omega), Nat.add_comm]
theorem words_take (l : List UInt8) (k : Nat) (h : k < l.length / 8) : (wordsL l).take (k + 1) = (wordsL l).take k ++ [wordI l k] := by
  have hk : k < (wordsL l).length := by rw [wordsL_length]; omega
  rw [List.take_succ_eq_append_getElem hk]
  congr 2
  simp [wordsL, h]
theorem words_last (l : List UInt8) : wordsL l = (wordsL l).take (l.length / 8) ++ [wordE l] := by
  have : (wordsL l).take (l.length / 8) = (List.range (l.length / 8)).map (wordI l) := by
    unfold wordsL
    rw [List.take_append_of_le_length (by simp), List.take_of_length_le (by simp)]
  rw [this]; rfl
/-- The words as words of 64 bits. -/
def wordsB (l : List UInt8) : List (BitVec 64) := (wordsL l).map (BitVec.ofNat 64)
theorem wordsB_length (l : List UInt8) : (wordsB l).length = l.length / 8 + 1 := by simp [wordsB, wordsL_length]
theorem wordsB_take (l : List UInt8) (k : Nat) (h : k < l.length / 8) : (wordsB l).take (k + 1) = (wordsB l).take k ++ [BitVec.ofNat 64 (wordI l k)] := by
  unfold wordsB; rw [← List.map_take, words_take l k h, List.map_append, List.map_take]; rfl
theorem wordsB_last (l : List UInt8) : wordsB l = (wordsB l).take (l.length / 8) ++ [BitVec.ofNat 64 (wordE l)] := by
  conv => lhs; unfold wordsB; rw [words_last l, List.map_append, List.map_take]
  rfl
theorem U_ofNat (x : Nat) (h : x < 18446744073709551616) : U (BitVec.ofNat 64 x) = (x : Int) := by
  unfold U; rw [BitVec.toNat_ofNat, Nat.mod_eq_of_lt (by omega)]
theorem extract8 (r : ByteArray) : (r.extract 0 8).data.toList = r.data.toList.take 8 := by simp
theorem extract_rest (r : ByteArray) : (r.extract 8 r.size).data.toList = r.data.toList.drop 8 := by
  simp only [ByteArray.data_extract, Array.toList_extract, List.extract_eq_take_drop]
  exact List.take_of_length_le (by simp)
end Go.Proofs.Ytcphcgkbjlgkiaa
