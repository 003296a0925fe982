/- Plain laws on bytes and words: no program in sight. -/
import Derived.Test.YtcphcgkbjlgkiaaSipMath
import Derived.Lib.Strings
namespace Go.Proofs.Ytcphcgkbjlgkiaa
open Go.RowKit

theorem reti {k : IntKind} {a b : Int} (h : a = b) : Ending.returned (.int k a) = .returned (.int k b) := by rw [h]
theorem retb {a b : Bool} (h : a = b) : Ending.returned (.bool a) = .returned (.bool b) := by rw [h]

/-- The number of some bytes, the lowest first. -/
def lowL : List UInt8 → Nat
  | [] => 0
  | c :: l => c.toNat + 256 * lowL l
theorem lowL_lt (l : List UInt8) : lowL l < 256 ^ l.length := by
  induction l with
  | nil => simp [lowL]
  | cons c l ih =>
    have := c.toNat_lt
    simp only [lowL, List.length_cons, Nat.pow_succ]
    omega
theorem lowL_snoc (l : List UInt8) (c : UInt8) : lowL (l ++ [c]) = lowL l + c.toNat * 256 ^ l.length := by
  induction l with
  | nil => simp [lowL]
  | cons d l ih =>
    simp only [List.cons_append, lowL, ih, List.length_cons, Nat.pow_succ, Nat.mul_add, Nat.add_assoc]
    congr 2
    rw [Nat.mul_comm (256 ^ l.length) 256, Nat.mul_left_comm]
theorem lowL_lt64 (l : List UInt8) (h : l.length ≤ 8) : lowL l < 18446744073709551616 := by
  have h1 := lowL_lt l
  have h2 : 256 ^ l.length ≤ 256 ^ 8 := Nat.pow_le_pow_right (by omega) h
  have h3 : 256 ^ 8 = 18446744073709551616 := by decide
  omega
theorem take_snoc8 (s : ByteArray) (k : Nat) (h : k < s.size) : s.data.toList.take (k + 1) = s.data.toList.take k ++ [s[k]] := by
  rw [List.take_succ_eq_append_getElem (by simpa using h)]; rfl
theorem drop_cons8 (s : ByteArray) (k : Nat) (h : k < s.size) : s.data.toList.drop k = s[k] :: s.data.toList.drop (k + 1) := by
  rw [List.drop_eq_getElem_cons (by simpa using h)]; rfl
theorem low_take (s : ByteArray) (k : Nat) (h : k < s.size) : lowL (s.data.toList.take (k + 1)) = lowL (s.data.toList.take k) + (s[k]).toNat * 256 ^ k := by
  rw [take_snoc8 s k h, lowL_snoc, List.length_take, Nat.min_eq_left (by simp; omega)]
theorem low_drop (s : ByteArray) (k : Nat) (h : k < s.size) : lowL (s.data.toList.drop k) = (s[k]).toNat + 256 * lowL (s.data.toList.drop (k + 1)) := by
  rw [drop_cons8 s k h, lowL]

theorem pow256 (k : Nat) : 256 ^ k = 2 ^ (8 * k) := by rw [show 256 = 2 ^ 8 from rfl, ← Nat.pow_mul]
/-- One byte more, as the shift and the 'or' lay it. -/
theorem or_byte (m c k : Nat) (hm : m < 256 ^ k) (hc : c < 256) (hk : k < 8) :
    bits .or .u64 (m : Int) (IntKind.u64.wrap (IntKind.u64.wrap (c : Int) * 2 ^ (8 * k))) = ((m + c * 256 ^ k : Nat) : Int) := by
  have hp : 256 ^ (k + 1) ≤ 256 ^ 8 := Nat.pow_le_pow_right (by omega) (by omega)
  have h8 : 256 ^ 8 = 18446744073709551616 := by decide
  have hb : c * 256 ^ k < 18446744073709551616 := by
    have h1 : c * 256 ^ k < 256 ^ (k + 1) := by rw [Nat.pow_succ, Nat.mul_comm]; exact Nat.mul_lt_mul_of_pos_left hc (Nat.pow_pos (by omega))
    omega
  have hm8 : m < 18446744073709551616 := by
    have h1 : 256 ^ k ≤ 256 ^ 8 := Nat.pow_le_pow_right (by omega) (by omega)
    omega
  have e1 : IntKind.u64.wrap (c : Int) = (c : Int) := by rw [IntKind.wrap_u64]; omega
  have e2 : (c : Int) * 2 ^ (8 * k) = ((c * 256 ^ k : Nat) : Int) := by rw [pow256, Int.natCast_mul, Int.natCast_pow]; rfl
  have e3 : IntKind.u64.wrap ((c * 256 ^ k : Nat) : Int) = ((c * 256 ^ k : Nat) : Int) := by rw [IntKind.wrap_u64]; omega
  rw [e1, e2, e3, u64_or_nat _ _ hm8 hb, Nat.or_comm, nat_join (8 * k) _ _ ?_ (by rw [← pow256]; exact hm), Nat.add_comm]
  rw [pow256]; exact Nat.mul_mod_left _ _
end Go.Proofs.Ytcphcgkbjlgkiaa
